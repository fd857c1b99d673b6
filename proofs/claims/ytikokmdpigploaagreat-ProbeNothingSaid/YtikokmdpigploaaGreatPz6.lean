/- Part 6. -/
import Derived.RangeFuncWrites
import Derived.Test.YtikokmdpigploaaGreatPz5
namespace Go.Proofs.YtikokmdpigploaaGreat
set_option linter.unusedVariables false
set_option linter.unusedSimpArgs false
set_option maxRecDepth 100000
set_option maxHeartbeats 8000000
open Go.RowKit
open St1 St2 St3 St4 St5 St6 St7 St8 StA StB
theorem a0S {H:Hp} {id len:Nat} {n:Int} {rows:List H4} {rs:List (List C)} {f:Fr} {v:Rat} (hf:f=fz v) (hs:H[2]? =some (a3V n id len)) (hid:H[id]? =some { mode:=.live,elem:=133,size:=6,rows:=rs,box:=false })
 (hlen:len=rows.length) (hrs:rs=toC (rows.map D9)) (hne:id≠2) (hr:rows.length<=1000000) (mv:Nat) (kind:Int):
 b9 Tryz.prog 132 [b7 .i64 mv,b7 .i64 kind,frS f,.c (.ptr 2 0 0)] H (.tup []) (((H.set 2 (a3V n H.length (rows.length+1))).set id (b25 133 6))++[V5 (rows++[w7 mv kind v])]):=by
 subst hf;subst hlen;subst hrs;exact bc4 hs hid hne hr mv kind v
theorem ad4 {t:g7} {kind:Int} {k:Nat} (hk:k<=200) (hf:t.finds.length<=20) (hc:t.cleans.length<=50):(v8 t kind k).length<=14400:=by
 have h1:=T2 (t:=t) (kind:=kind) k
 have h2:=lbS hk (show 2+t.finds.length+t.cleans.length<=72 by omega)
 omega
abbrev az4 (t:g7) (kind:Int) (i:Nat):Blk:={ mode:=.live,elem:=147,size:=7,rows:=[(U4 t kind i).map .t],box:=true }
theorem U1 {ρ:List (Option Nat)} {H:Hp}:∀rows:List (List T),a4s ρ H (rows.map (·.map C.t)) (rows.map (·.map C.t))
 |[]=>trivial
 |r::rs=>⟨Q5 r,U1 rs⟩
def a1k (t:g7) (kind:Int):Int:=if n9 t≠0∨kind<0∨8<=kind then 1 else 0
def aP0 (t:g7) (kind:Int):l9:=if n9 t≠0∨kind<0∨8<=kind then ⟨0,[]⟩ else n8 t kind
abbrev a7F:FuncId:=132
abbrev a7n:Blk:={ mode:=.live,elem:=70,size:=2,rows:=[[.t (ti 0),.t (a0d [])]],box:=true }
theorem b38 {P:Program} {f:FuncId} {args:List S} {H H1 H':Hp} {r s:S} (h:b9 P f args H r H1) (hf:Fin H.length r H1 s H'):b9 P f args H s H':=by
 refine ⟨h.1,fun w ι M vals hl hr hH hM hF=>?_⟩
 refine Calls.mono (h.2 w ι M vals hl hr hH hM hF) ?_
 rintro e w' ⟨v,rfl,ι',M',h4,hH',hM',hF',hst⟩
 obtain ⟨ρ,f1,f2,f3,f4⟩:=hf
 obtain ⟨g1,g2,g3⟩:=a3i.all f1 f2 f3 rfl hM hH' hst
 exact ⟨v,rfl,O8 ρ ι',_,f4.rs hH' h4,g1,fun b hb=>hM' b hb.1,g2,g3⟩
theorem b2S (t:g7) (kind:Int) (hs:t.Sized) (h1:¬(n9 t≠0∨kind<0∨8<=kind)):b9 Tryz.prog 64 [trS t,b7 .i64 kind] [] (.tup [.agg [.t (ti t.ev.moves.length),.own 0 0 (n8 t kind).rows.length true],b7 .i64 0]) [V5 (n8 t kind).rows]:=by
 have ck:=a38 t hs
 have m2:(t.ev.moves.map t4.row).length=t.ev.moves.length:=by simp
 obtain ⟨k1,k2,k3⟩:n9 t=0∧0<=kind∧kind<8:=by omega
 rw [k1] at ck
 obtain ⟨q1,q2,q3,q4,q5⟩:=z6 k1
 obtain ⟨b1,b2,b3,b4⟩:=a1l q1
 have kn:=b1B t kind hs q1 (fun f hf=>by have:=S9 q4 f hf;omega) (fun c hc=>a4M q5 c hc)
 (refine ac Tryz.func64 ?_;(conv=>whnf);repeat ((first|refine b0x ?_|refine zy ?_);conv=>whnf))
 repeat' (first|refine zx ?_|refine qp ck ?_|refine qp kn ?_|refine zd ?_ ?_<;>intro h<;>try omega|fail)<;>conv=>whnf
 all_goals try omega
 refine j7 g6 (fun k=>([J,J,J,J,S.c (C.ptr 0 0 0),J,S.c (C.ptr 1 0 0),S.c (C.ptr 2 0 0),S.c (C.fn (Fn.func a7F) [C.ptr 2 0 0])]++Jn 25++[S.c (C.t (a1S t kind)),b7 .i64 t.ev.moves.length,b7 .i64 k]++Jn 47,[a7n,evB t.ev,a3V t.ev.moves.length 3 (v8 t kind k).length,V5 (v8 t kind k)])) t.ev.moves.length (fun _=>True) [some 0,some 1,some 2,none] trivial ?_ ?_
 ·refine ⟨rfl,rfl,⟨⟨rfl,rfl,rfl,.inr ⟨⟨rfl,rfl,trivial⟩,trivial⟩⟩,⟨rfl,rfl,rfl,.inl ⟨rfl,k8 _⟩⟩,⟨rfl,rfl,rfl,.inr ⟨⟨?_,⟨rfl,rfl,rfl⟩,trivial⟩,trivial⟩⟩,⟨rfl,rfl⟩,trivial⟩,⟨⟨rfl,rfl,rfl⟩,⟨rfl,rfl,rfl⟩,⟨rfl,rfl,rfl⟩,⟨rfl,⟨rfl,rfl,rfl⟩,trivial⟩,rfl,e8 (by simp),rfl,trivial⟩⟩
  exact aC2 (by rw [m2])
 intro k hk _
 by_cases hlt:k<t.ev.moves.length
 ·obtain ⟨x,hx⟩:∃x,t.ev.moves[k]? =some x:=⟨_,lbf hlt⟩
  have bn:=b9e t.ev q1 hx
  have st:=b7t t.ev q1 hx
  have gk:(List.range t.ev.moves.length)[k]? =some k:=lbh hlt
  have iv:a0o t.ev k=O5 t.ev x:=a79 hx
  have rl0:=ad4 (t:=t) (kind:=kind) (k:=k) (by omega) q2 q3
  have gl:(j9 t.finds kind k).length<=20:=by unfold j9;rw [lbr];exact lbR (lbt _ _) q2
  have cl:p8 t.cleans kind k<=50:=lbR (lbt _ _) q3
  have i0:=I3 0 (by decide) (by decide)
  obtain ⟨R1,hR1⟩:∃R1:List H4,R1=v8 t kind k++(if B6 t.ev x.src=0 then [] else [C8 t.ev k x])++P1 (O5 t.ev x) k:=⟨_,rfl⟩
  have l5:(v8 t kind k).length+1=(v8 t kind k++[C8 t.ev k x]).length:=by simp
  have r5:List.take (v8 t kind k).length (toC ((v8 t kind k).map D9))++toC [D9 (C8 t.ev k x)]=toC ((v8 t kind k++[C8 t.ev k x]).map D9):=at4 rfl
  have b5:(v8 t kind k++[C8 t.ev k x]).length<=1000000:=by simp;omega
  have b3:(v8 t kind k).length<=1000000:=by omega
  obtain ⟨G,hG⟩:∃G:Nat->List H4,∀j,G j=R1++((j9 t.finds kind k).take j).map (fun g:Int=>w7 k 0 (g:Rat)):=⟨_,fun _=>rfl⟩
  obtain ⟨K,hK⟩:∃K:Nat->List H4,∀j,K j=(R1++(j9 t.finds kind k).map (fun g:Int=>w7 k 0 (g:Rat)))++List.replicate j (w7 k 2 ((0:Int):Rat)):=⟨_,fun _=>rfl⟩
  have hG0:G 0=R1:=by rw [hG];simp
  have hK0:K 0=R1++(j9 t.finds kind k).map (fun g:Int=>w7 k 0 (g:Rat)):=by rw [hK];simp
  have hKe:v8 t kind (k+1)=K (p8 t.cleans kind k):=by
   rw [hK,hR1]
   show (match t.ev.moves[k]? with|none=>v8 t kind k|some x=>v8 t kind k++M6 t kind k x)=_
   rw [hx]
   unfold M6
   simp [lbD]
  have hKs:toC ((K (p8 t.cleans kind k)).map D9)=toC ((v8 t kind (k+1)).map D9)∧(K (p8 t.cleans kind k)).length=(v8 t kind (k+1)).length:=by rw [hKe];exact ⟨rfl,rfl⟩
  have hgr:∀g ∈ j9 t.finds kind k,1<=g∧g<=1099511627776:=fun g hg=>by
   unfold j9 at hg
   obtain ⟨f,hf,rfl⟩:=lbx.1 hg
   have:=S9 q4 f (lby.1 hf).1
   omega
  have hcr:P1 (O5 t.ev x) k=if (O5 t.ev x).isSome then [w7 k 1 (hiR (O5 t.ev x))] else []:=by cases O5 t.ev x<;>rfl
  cases hc:(O5 t.ev x).isSome<;>cases hb:decide (B6 t.ev x.src=0)<;>rw [hb] at bn
  ·have hci:(a0o t.ev k).isSome=false:=by rw [iv];exact hc
   rw [hc] at hcr
   have hcr:P1 (O5 t.ev x) k=[]:=hcr
   have eR:R1=v8 t kind k++[C8 t.ev k x]:=by rw [hR1,hcr];simp only [lbK,lbI] at hb;simp [hb,lbD]
   have hRl:R1.length<=14500:=by rw [eR];(try simp);omega
   conv=>whnf
   repeat' (first|refine zx ?_|refine qp bn ?_|refine qp st ?_|refine qp toC ?_|refine qp toC ?_|refine i3 gk ?_|refine D5 (by simp [toC]) (by simp [toC];omega) ?_|refine zd ?_ ?_<;>intro h<;>try omega|fail)<;>conv=>whnf
   all_goals try omega
   all_goals try (rw [hci] at h;exact absurd h (by decide))
   refine j7 g6 (fun j=>([J,J,J,J,S.c (C.ptr 0 0 0),J,S.c (C.ptr 1 0 0),S.c (C.ptr 2 0 0),S.c (C.fn (Fn.func a7F) [C.ptr 2 0 0]),b7 .i64 k,S.c (C.ptr 4 0 0)]++Jn 23++[S.c (C.t (a1S t kind)),b7 .i64 t.ev.moves.length,b7 .i64 k]++Jn 24++[S.c (C.t (E1 (j9 t.finds kind k))),b7 .i64 (j9 t.finds kind k).length,b7 .i64 j]++Jn 20,[a7n,evB t.ev,a3V t.ev.moves.length 3 (G j).length,V5 (G j),az4 t kind k])) (j9 t.finds kind k).length (fun _=>True) [some 0,some 1,some 2,some 5,some 4] trivial ⟨rfl,rfl,⟨⟨rfl,rfl,rfl,.inr ⟨⟨rfl,rfl,trivial⟩,trivial⟩⟩,⟨rfl,rfl,rfl,.inl ⟨rfl,k8 _⟩⟩,⟨rfl,rfl,rfl,.inr ⟨⟨rfl,⟨rfl,rfl,?_,fun h=>h⟩,trivial⟩,trivial⟩⟩,b8 rfl rfl rfl ?_ rfl,⟨rfl,rfl,rfl,.inr (U1 [U4 t kind k])⟩,trivial⟩,⟨⟨rfl,rfl,rfl⟩,⟨rfl,rfl,rfl⟩,⟨rfl,rfl,rfl⟩,⟨rfl,⟨rfl,rfl,rfl⟩,trivial⟩,rfl,⟨rfl,rfl,rfl⟩,rfl,rfl,rfl,rfl,e8 (by simp),rfl,trivial⟩⟩ ?_
   ·simp [hG0,eR,toC]
   ·rw [hG0,eR];exact r5
   intro j hj _
   have hGl:(G j).length<=1000000:=by rw [hG];simp [lbq];omega
   by_cases hjt:j<(j9 t.finds kind k).length
   ·obtain ⟨g,hg⟩:∃g,(j9 t.finds kind k)[j]? =some g:=⟨_,lbf hjt⟩
    have gb:=hgr g (lbm hg)
    have ig:=I3 g (by omega) (by omega)
    have eG:G (j+1)=G j++[w7 k 0 (g:Rat)]:=by rw [hG,hG,lbG,hg];simp
    conv=>whnf
    repeat' (first|refine zx ?_|refine qp ig ?_|refine i3 hg ?_|refine .inr ⟨_,_,a0S (id:=3) rfl rfl rfl rfl rfl (by decide) hGl _ _,?_⟩|refine zd ?_ ?_<;>intro h<;>try omega|fail)<;>conv=>whnf
    all_goals try omega
    refine ⟨hjt,trivial,[some 0,some 1,some 2,some 5,some 4],rfl,rfl,⟨⟨rfl,rfl,rfl,.inr ⟨⟨rfl,rfl,trivial⟩,trivial⟩⟩,⟨rfl,rfl,rfl,.inl ⟨rfl,k8 _⟩⟩,⟨rfl,rfl,rfl,.inr ⟨⟨rfl,⟨rfl,rfl,?_,fun h=>h⟩,trivial⟩,trivial⟩⟩,b8 rfl rfl rfl ?_ rfl,⟨rfl,rfl,rfl,.inr (U1 [U4 t kind k])⟩,trivial⟩,⟨⟨rfl,rfl,rfl⟩,⟨rfl,rfl,rfl⟩,⟨rfl,rfl,rfl⟩,⟨rfl,⟨rfl,rfl,rfl⟩,trivial⟩,rfl,⟨rfl,rfl,rfl⟩,rfl,rfl,rfl,rfl,rfl,rfl,trivial⟩⟩
    ·rw [eG];simp
    ·rw [eG]
   have hje:j=(j9 t.finds kind k).length:=by omega
   subst hje
   have hGe:G (j9 t.finds kind k).length=R1++(j9 t.finds kind k).map (fun g:Int=>w7 k 0 (g:Rat)):=by rw [hG,lbn (lbQ _)]
   conv=>whnf
   repeat' (first|refine zx ?_|refine zd ?_ ?_<;>intro h<;>try omega|fail)<;>conv=>whnf
   all_goals try omega
   refine j7 g6 (fun j=>([J,J,J,J,S.c (C.ptr 0 0 0),J,S.c (C.ptr 1 0 0),S.c (C.ptr 2 0 0),S.c (C.fn (Fn.func a7F) [C.ptr 2 0 0]),b7 .i64 k]++Jn 24++[S.c (C.t (a1S t kind)),b7 .i64 t.ev.moves.length,b7 .i64 k]++Jn 37++[b7 .i64 (p8 t.cleans kind k),b7 .i64 j]++Jn 8,[a7n,evB t.ev,a3V t.ev.moves.length 3 (K j).length,V5 (K j)])) (p8 t.cleans kind k) (fun _=>True) [some 0,some 1,some 2,some 3] trivial ⟨rfl,rfl,⟨⟨rfl,rfl,rfl,.inr ⟨⟨rfl,rfl,trivial⟩,trivial⟩⟩,⟨rfl,rfl,rfl,.inl ⟨rfl,k8 _⟩⟩,⟨rfl,rfl,rfl,.inr ⟨⟨rfl,⟨rfl,rfl,?_,fun h=>h⟩,trivial⟩,trivial⟩⟩,b8 rfl rfl rfl ?_ rfl,trivial⟩,⟨⟨rfl,rfl,rfl⟩,⟨rfl,rfl,rfl⟩,⟨rfl,rfl,rfl⟩,⟨rfl,⟨rfl,rfl,rfl⟩,trivial⟩,rfl,rfl,rfl,rfl,rfl,rfl,trivial⟩⟩ ?_
   ·rw [hK0,hGe]
   ·rw [hK0,hGe]
   clear hj hjt
   intro j hj _
   have hKl:(K j).length<=1000000:=by rw [hK];simp [lbq];omega
   by_cases hjt:j<p8 t.cleans kind k
   ·have eK:K (j+1)=K j++[w7 k 2 ((0:Int):Rat)]:=by rw [hK,hK,List.replicate_succ'];simp
    conv=>whnf
    repeat' (first|refine zx ?_|refine qp i0 ?_|refine .inr ⟨_,_,a0S (id:=3) rfl rfl rfl rfl rfl (by decide) hKl _ _,?_⟩|refine zd ?_ ?_<;>intro h<;>try omega|fail)<;>conv=>whnf
    all_goals try omega
    refine ⟨hjt,trivial,[some 0,some 1,some 2,some 4],rfl,rfl,⟨⟨rfl,rfl,rfl,.inr ⟨⟨rfl,rfl,trivial⟩,trivial⟩⟩,⟨rfl,rfl,rfl,.inl ⟨rfl,k8 _⟩⟩,⟨rfl,rfl,rfl,.inr ⟨⟨rfl,⟨rfl,rfl,?_,fun h=>h⟩,trivial⟩,trivial⟩⟩,b8 rfl rfl rfl ?_ rfl,trivial⟩,⟨⟨rfl,rfl,rfl⟩,⟨rfl,rfl,rfl⟩,⟨rfl,rfl,rfl⟩,⟨rfl,⟨rfl,rfl,rfl⟩,trivial⟩,rfl,rfl,rfl,rfl,rfl,rfl,trivial⟩⟩
    ·rw [eK];simp
    ·rw [eK]
   have hje:j=p8 t.cleans kind k:=by omega
   subst hje
   conv=>whnf
   repeat' (first|refine zx ?_|refine zd ?_ ?_<;>intro h<;>try omega|fail)<;>conv=>whnf
   all_goals try omega
   exact ⟨hlt,trivial,[some 0,some 1,some 2,some 3],rfl,rfl,⟨⟨rfl,rfl,rfl,.inr ⟨⟨rfl,rfl,trivial⟩,trivial⟩⟩,⟨rfl,rfl,rfl,.inl ⟨rfl,k8 _⟩⟩,⟨rfl,rfl,rfl,.inr ⟨⟨rfl,⟨rfl,rfl,hKs.2,fun h=>h⟩,trivial⟩,trivial⟩⟩,b8 rfl rfl rfl hKs.1 rfl,trivial⟩,⟨⟨rfl,rfl,rfl⟩,⟨rfl,rfl,rfl⟩,⟨rfl,rfl,rfl⟩,⟨rfl,⟨rfl,rfl,rfl⟩,trivial⟩,rfl,rfl,rfl,trivial⟩⟩
  ·have hci:(a0o t.ev k).isSome=false:=by rw [iv];exact hc
   rw [hc] at hcr
   have hcr:P1 (O5 t.ev x) k=[]:=hcr
   have eR:R1=v8 t kind k:=by rw [hR1,hcr];simp only [lbK,lbI] at hb;simp [hb,lbD]
   have hRl:R1.length<=14500:=by rw [eR];(try simp);omega
   conv=>whnf
   repeat' (first|refine zx ?_|refine qp bn ?_|refine qp st ?_|refine qp toC ?_|refine qp toC ?_|refine i3 gk ?_|refine D5 (by simp [toC]) (by simp [toC];omega) ?_|refine zd ?_ ?_<;>intro h<;>try omega|fail)<;>conv=>whnf
   all_goals try omega
   all_goals try (rw [hci] at h;exact absurd h (by decide))
   refine j7 g6 (fun j=>([J,J,J,J,S.c (C.ptr 0 0 0),J,S.c (C.ptr 1 0 0),S.c (C.ptr 2 0 0),S.c (C.fn (Fn.func a7F) [C.ptr 2 0 0]),b7 .i64 k,S.c (C.ptr 4 0 0)]++Jn 23++[S.c (C.t (a1S t kind)),b7 .i64 t.ev.moves.length,b7 .i64 k]++Jn 24++[S.c (C.t (E1 (j9 t.finds kind k))),b7 .i64 (j9 t.finds kind k).length,b7 .i64 j]++Jn 20,[a7n,evB t.ev,a3V t.ev.moves.length 3 (G j).length,V5 (G j),az4 t kind k])) (j9 t.finds kind k).length (fun _=>True) [some 0,some 1,some 2,some 3,some 4] trivial ⟨rfl,rfl,⟨⟨rfl,rfl,rfl,.inr ⟨⟨rfl,rfl,trivial⟩,trivial⟩⟩,⟨rfl,rfl,rfl,.inl ⟨rfl,k8 _⟩⟩,⟨rfl,rfl,rfl,.inr ⟨⟨rfl,⟨rfl,rfl,?_,fun h=>h⟩,trivial⟩,trivial⟩⟩,b8 rfl rfl rfl ?_ rfl,⟨rfl,rfl,rfl,.inr (U1 [U4 t kind k])⟩,trivial⟩,⟨⟨rfl,rfl,rfl⟩,⟨rfl,rfl,rfl⟩,⟨rfl,rfl,rfl⟩,⟨rfl,⟨rfl,rfl,rfl⟩,trivial⟩,rfl,⟨rfl,rfl,rfl⟩,rfl,rfl,rfl,rfl,e8 (by simp),rfl,trivial⟩⟩ ?_
   ·simp [hG0,eR,toC]
   ·rw [hG0,eR]<;>rfl
   intro j hj _
   have hGl:(G j).length<=1000000:=by rw [hG];simp [lbq];omega
   by_cases hjt:j<(j9 t.finds kind k).length
   ·obtain ⟨g,hg⟩:∃g,(j9 t.finds kind k)[j]? =some g:=⟨_,lbf hjt⟩
    have gb:=hgr g (lbm hg)
    have ig:=I3 g (by omega) (by omega)
    have eG:G (j+1)=G j++[w7 k 0 (g:Rat)]:=by rw [hG,hG,lbG,hg];simp
    conv=>whnf
    repeat' (first|refine zx ?_|refine qp ig ?_|refine i3 hg ?_|refine .inr ⟨_,_,a0S (id:=3) rfl rfl rfl rfl rfl (by decide) hGl _ _,?_⟩|refine zd ?_ ?_<;>intro h<;>try omega|fail)<;>conv=>whnf
    all_goals try omega
    refine ⟨hjt,trivial,[some 0,some 1,some 2,some 5,some 4],rfl,rfl,⟨⟨rfl,rfl,rfl,.inr ⟨⟨rfl,rfl,trivial⟩,trivial⟩⟩,⟨rfl,rfl,rfl,.inl ⟨rfl,k8 _⟩⟩,⟨rfl,rfl,rfl,.inr ⟨⟨rfl,⟨rfl,rfl,?_,fun h=>h⟩,trivial⟩,trivial⟩⟩,b8 rfl rfl rfl ?_ rfl,⟨rfl,rfl,rfl,.inr (U1 [U4 t kind k])⟩,trivial⟩,⟨⟨rfl,rfl,rfl⟩,⟨rfl,rfl,rfl⟩,⟨rfl,rfl,rfl⟩,⟨rfl,⟨rfl,rfl,rfl⟩,trivial⟩,rfl,⟨rfl,rfl,rfl⟩,rfl,rfl,rfl,rfl,rfl,rfl,trivial⟩⟩
    ·rw [eG];simp
    ·rw [eG]
   have hje:j=(j9 t.finds kind k).length:=by omega
   subst hje
   have hGe:G (j9 t.finds kind k).length=R1++(j9 t.finds kind k).map (fun g:Int=>w7 k 0 (g:Rat)):=by rw [hG,lbn (lbQ _)]
   conv=>whnf
   repeat' (first|refine zx ?_|refine zd ?_ ?_<;>intro h<;>try omega|fail)<;>conv=>whnf
   all_goals try omega
   refine j7 g6 (fun j=>([J,J,J,J,S.c (C.ptr 0 0 0),J,S.c (C.ptr 1 0 0),S.c (C.ptr 2 0 0),S.c (C.fn (Fn.func a7F) [C.ptr 2 0 0]),b7 .i64 k]++Jn 24++[S.c (C.t (a1S t kind)),b7 .i64 t.ev.moves.length,b7 .i64 k]++Jn 37++[b7 .i64 (p8 t.cleans kind k),b7 .i64 j]++Jn 8,[a7n,evB t.ev,a3V t.ev.moves.length 3 (K j).length,V5 (K j)])) (p8 t.cleans kind k) (fun _=>True) [some 0,some 1,some 2,some 3] trivial ⟨rfl,rfl,⟨⟨rfl,rfl,rfl,.inr ⟨⟨rfl,rfl,trivial⟩,trivial⟩⟩,⟨rfl,rfl,rfl,.inl ⟨rfl,k8 _⟩⟩,⟨rfl,rfl,rfl,.inr ⟨⟨rfl,⟨rfl,rfl,?_,fun h=>h⟩,trivial⟩,trivial⟩⟩,b8 rfl rfl rfl ?_ rfl,trivial⟩,⟨⟨rfl,rfl,rfl⟩,⟨rfl,rfl,rfl⟩,⟨rfl,rfl,rfl⟩,⟨rfl,⟨rfl,rfl,rfl⟩,trivial⟩,rfl,rfl,rfl,rfl,rfl,rfl,trivial⟩⟩ ?_
   ·rw [hK0,hGe]
   ·rw [hK0,hGe]
   clear hj hjt
   intro j hj _
   have hKl:(K j).length<=1000000:=by rw [hK];simp [lbq];omega
   by_cases hjt:j<p8 t.cleans kind k
   ·have eK:K (j+1)=K j++[w7 k 2 ((0:Int):Rat)]:=by rw [hK,hK,List.replicate_succ'];simp
    conv=>whnf
    repeat' (first|refine zx ?_|refine qp i0 ?_|refine .inr ⟨_,_,a0S (id:=3) rfl rfl rfl rfl rfl (by decide) hKl _ _,?_⟩|refine zd ?_ ?_<;>intro h<;>try omega|fail)<;>conv=>whnf
    all_goals try omega
    refine ⟨hjt,trivial,[some 0,some 1,some 2,some 4],rfl,rfl,⟨⟨rfl,rfl,rfl,.inr ⟨⟨rfl,rfl,trivial⟩,trivial⟩⟩,⟨rfl,rfl,rfl,.inl ⟨rfl,k8 _⟩⟩,⟨rfl,rfl,rfl,.inr ⟨⟨rfl,⟨rfl,rfl,?_,fun h=>h⟩,trivial⟩,trivial⟩⟩,b8 rfl rfl rfl ?_ rfl,trivial⟩,⟨⟨rfl,rfl,rfl⟩,⟨rfl,rfl,rfl⟩,⟨rfl,rfl,rfl⟩,⟨rfl,⟨rfl,rfl,rfl⟩,trivial⟩,rfl,rfl,rfl,rfl,rfl,rfl,trivial⟩⟩
    ·rw [eK];simp
    ·rw [eK]
   have hje:j=p8 t.cleans kind k:=by omega
   subst hje
   conv=>whnf
   repeat' (first|refine zx ?_|refine zd ?_ ?_<;>intro h<;>try omega|fail)<;>conv=>whnf
   all_goals try omega
   exact ⟨hlt,trivial,[some 0,some 1,some 2,some 3],rfl,rfl,⟨⟨rfl,rfl,rfl,.inr ⟨⟨rfl,rfl,trivial⟩,trivial⟩⟩,⟨rfl,rfl,rfl,.inl ⟨rfl,k8 _⟩⟩,⟨rfl,rfl,rfl,.inr ⟨⟨rfl,⟨rfl,rfl,hKs.2,fun h=>h⟩,trivial⟩,trivial⟩⟩,b8 rfl rfl rfl hKs.1 rfl,trivial⟩,⟨⟨rfl,rfl,rfl⟩,⟨rfl,rfl,rfl⟩,⟨rfl,rfl,rfl⟩,⟨rfl,⟨rfl,rfl,rfl⟩,trivial⟩,rfl,rfl,rfl,trivial⟩⟩
  ·have hci:(a0o t.ev k).isSome=true:=by rw [iv];exact hc
   rw [hc] at hcr
   have hcr:P1 (O5 t.ev x) k=[w7 k 1 (hiR (O5 t.ev x))]:=hcr
   have eR:R1=(v8 t kind k++[C8 t.ev k x])++[w7 k 1 (hiR (O5 t.ev x))]:=by rw [hR1,hcr];simp only [lbK,lbI] at hb;simp [hb,lbD]
   have hRl:R1.length<=14500:=by rw [eR];(try simp);omega
   have hfv:hiF (a0o t.ev k)=fz (hiR (O5 t.ev x)):=by rw [iv];exact (a6V hc).1
   conv=>whnf
   repeat' (first|refine zx ?_|refine qp bn ?_|refine qp st ?_|refine qp toC ?_|refine qp toC ?_|refine i3 gk ?_|refine D5 (by simp [toC]) (by simp [toC];omega) ?_|refine .inr ⟨_,_,a0S (id:=5) hfv rfl rfl l5 r5 (by decide) b5 _ _,?_⟩|refine zd ?_ ?_<;>intro h<;>try omega|fail)<;>conv=>whnf
   all_goals try omega
   all_goals try (rw [hci] at h;exact absurd h (by decide))
   refine j7 g6 (fun j=>([J,J,J,J,S.c (C.ptr 0 0 0),J,S.c (C.ptr 1 0 0),S.c (C.ptr 2 0 0),S.c (C.fn (Fn.func a7F) [C.ptr 2 0 0]),b7 .i64 k,S.c (C.ptr 4 0 0)]++Jn 23++[S.c (C.t (a1S t kind)),b7 .i64 t.ev.moves.length,b7 .i64 k]++Jn 24++[S.c (C.t (E1 (j9 t.finds kind k))),b7 .i64 (j9 t.finds kind k).length,b7 .i64 j]++Jn 20,[a7n,evB t.ev,a3V t.ev.moves.length 3 (G j).length,V5 (G j),az4 t kind k])) (j9 t.finds kind k).length (fun _=>True) [some 0,some 1,some 2,some 6,some 4] trivial ⟨rfl,rfl,⟨⟨rfl,rfl,rfl,.inr ⟨⟨rfl,rfl,trivial⟩,trivial⟩⟩,⟨rfl,rfl,rfl,.inl ⟨rfl,k8 _⟩⟩,⟨rfl,rfl,rfl,.inr ⟨⟨rfl,⟨rfl,rfl,?_,fun h=>h⟩,trivial⟩,trivial⟩⟩,b8 rfl rfl rfl ?_ rfl,⟨rfl,rfl,rfl,.inr (U1 [U4 t kind k])⟩,trivial⟩,⟨⟨rfl,rfl,rfl⟩,⟨rfl,rfl,rfl⟩,⟨rfl,rfl,rfl⟩,⟨rfl,⟨rfl,rfl,rfl⟩,trivial⟩,rfl,⟨rfl,rfl,rfl⟩,rfl,rfl,rfl,rfl,e8 (by simp),rfl,trivial⟩⟩ ?_
   ·simp [hG0,eR,toC]
   ·rw [hG0,eR]<;>rfl
   intro j hj _
   have hGl:(G j).length<=1000000:=by rw [hG];simp [lbq];omega
   by_cases hjt:j<(j9 t.finds kind k).length
   ·obtain ⟨g,hg⟩:∃g,(j9 t.finds kind k)[j]? =some g:=⟨_,lbf hjt⟩
    have gb:=hgr g (lbm hg)
    have ig:=I3 g (by omega) (by omega)
    have eG:G (j+1)=G j++[w7 k 0 (g:Rat)]:=by rw [hG,hG,lbG,hg];simp
    conv=>whnf
    repeat' (first|refine zx ?_|refine qp ig ?_|refine i3 hg ?_|refine .inr ⟨_,_,a0S (id:=3) rfl rfl rfl rfl rfl (by decide) hGl _ _,?_⟩|refine zd ?_ ?_<;>intro h<;>try omega|fail)<;>conv=>whnf
    all_goals try omega
    refine ⟨hjt,trivial,[some 0,some 1,some 2,some 5,some 4],rfl,rfl,⟨⟨rfl,rfl,rfl,.inr ⟨⟨rfl,rfl,trivial⟩,trivial⟩⟩,⟨rfl,rfl,rfl,.inl ⟨rfl,k8 _⟩⟩,⟨rfl,rfl,rfl,.inr ⟨⟨rfl,⟨rfl,rfl,?_,fun h=>h⟩,trivial⟩,trivial⟩⟩,b8 rfl rfl rfl ?_ rfl,⟨rfl,rfl,rfl,.inr (U1 [U4 t kind k])⟩,trivial⟩,⟨⟨rfl,rfl,rfl⟩,⟨rfl,rfl,rfl⟩,⟨rfl,rfl,rfl⟩,⟨rfl,⟨rfl,rfl,rfl⟩,trivial⟩,rfl,⟨rfl,rfl,rfl⟩,rfl,rfl,rfl,rfl,rfl,rfl,trivial⟩⟩
    ·rw [eG];simp
    ·rw [eG]
   have hje:j=(j9 t.finds kind k).length:=by omega
   subst hje
   have hGe:G (j9 t.finds kind k).length=R1++(j9 t.finds kind k).map (fun g:Int=>w7 k 0 (g:Rat)):=by rw [hG,lbn (lbQ _)]
   conv=>whnf
   repeat' (first|refine zx ?_|refine zd ?_ ?_<;>intro h<;>try omega|fail)<;>conv=>whnf
   all_goals try omega
   refine j7 g6 (fun j=>([J,J,J,J,S.c (C.ptr 0 0 0),J,S.c (C.ptr 1 0 0),S.c (C.ptr 2 0 0),S.c (C.fn (Fn.func a7F) [C.ptr 2 0 0]),b7 .i64 k]++Jn 24++[S.c (C.t (a1S t kind)),b7 .i64 t.ev.moves.length,b7 .i64 k]++Jn 37++[b7 .i64 (p8 t.cleans kind k),b7 .i64 j]++Jn 8,[a7n,evB t.ev,a3V t.ev.moves.length 3 (K j).length,V5 (K j)])) (p8 t.cleans kind k) (fun _=>True) [some 0,some 1,some 2,some 3] trivial ⟨rfl,rfl,⟨⟨rfl,rfl,rfl,.inr ⟨⟨rfl,rfl,trivial⟩,trivial⟩⟩,⟨rfl,rfl,rfl,.inl ⟨rfl,k8 _⟩⟩,⟨rfl,rfl,rfl,.inr ⟨⟨rfl,⟨rfl,rfl,?_,fun h=>h⟩,trivial⟩,trivial⟩⟩,b8 rfl rfl rfl ?_ rfl,trivial⟩,⟨⟨rfl,rfl,rfl⟩,⟨rfl,rfl,rfl⟩,⟨rfl,rfl,rfl⟩,⟨rfl,⟨rfl,rfl,rfl⟩,trivial⟩,rfl,rfl,rfl,rfl,rfl,rfl,trivial⟩⟩ ?_
   ·rw [hK0,hGe]
   ·rw [hK0,hGe]
   clear hj hjt
   intro j hj _
   have hKl:(K j).length<=1000000:=by rw [hK];simp [lbq];omega
   by_cases hjt:j<p8 t.cleans kind k
   ·have eK:K (j+1)=K j++[w7 k 2 ((0:Int):Rat)]:=by rw [hK,hK,List.replicate_succ'];simp
    conv=>whnf
    repeat' (first|refine zx ?_|refine qp i0 ?_|refine .inr ⟨_,_,a0S (id:=3) rfl rfl rfl rfl rfl (by decide) hKl _ _,?_⟩|refine zd ?_ ?_<;>intro h<;>try omega|fail)<;>conv=>whnf
    all_goals try omega
    refine ⟨hjt,trivial,[some 0,some 1,some 2,some 4],rfl,rfl,⟨⟨rfl,rfl,rfl,.inr ⟨⟨rfl,rfl,trivial⟩,trivial⟩⟩,⟨rfl,rfl,rfl,.inl ⟨rfl,k8 _⟩⟩,⟨rfl,rfl,rfl,.inr ⟨⟨rfl,⟨rfl,rfl,?_,fun h=>h⟩,trivial⟩,trivial⟩⟩,b8 rfl rfl rfl ?_ rfl,trivial⟩,⟨⟨rfl,rfl,rfl⟩,⟨rfl,rfl,rfl⟩,⟨rfl,rfl,rfl⟩,⟨rfl,⟨rfl,rfl,rfl⟩,trivial⟩,rfl,rfl,rfl,rfl,rfl,rfl,trivial⟩⟩
    ·rw [eK];simp
    ·rw [eK]
   have hje:j=p8 t.cleans kind k:=by omega
   subst hje
   conv=>whnf
   repeat' (first|refine zx ?_|refine zd ?_ ?_<;>intro h<;>try omega|fail)<;>conv=>whnf
   all_goals try omega
   exact ⟨hlt,trivial,[some 0,some 1,some 2,some 3],rfl,rfl,⟨⟨rfl,rfl,rfl,.inr ⟨⟨rfl,rfl,trivial⟩,trivial⟩⟩,⟨rfl,rfl,rfl,.inl ⟨rfl,k8 _⟩⟩,⟨rfl,rfl,rfl,.inr ⟨⟨rfl,⟨rfl,rfl,hKs.2,fun h=>h⟩,trivial⟩,trivial⟩⟩,b8 rfl rfl rfl hKs.1 rfl,trivial⟩,⟨⟨rfl,rfl,rfl⟩,⟨rfl,rfl,rfl⟩,⟨rfl,rfl,rfl⟩,⟨rfl,⟨rfl,rfl,rfl⟩,trivial⟩,rfl,rfl,rfl,trivial⟩⟩
  ·have hci:(a0o t.ev k).isSome=true:=by rw [iv];exact hc
   rw [hc] at hcr
   have hcr:P1 (O5 t.ev x) k=[w7 k 1 (hiR (O5 t.ev x))]:=hcr
   have eR:R1=v8 t kind k++[w7 k 1 (hiR (O5 t.ev x))]:=by rw [hR1,hcr];simp only [lbK,lbI] at hb;simp [hb,lbD]
   have hRl:R1.length<=14500:=by rw [eR];(try simp);omega
   have hfv:hiF (a0o t.ev k)=fz (hiR (O5 t.ev x)):=by rw [iv];exact (a6V hc).1
   conv=>whnf
   repeat' (first|refine zx ?_|refine qp bn ?_|refine qp st ?_|refine qp toC ?_|refine qp toC ?_|refine i3 gk ?_|refine D5 (by simp [toC]) (by simp [toC];omega) ?_|refine .inr ⟨_,_,a0S (id:=3) hfv rfl rfl rfl rfl (by decide) b3 _ _,?_⟩|refine zd ?_ ?_<;>intro h<;>try omega|fail)<;>conv=>whnf
   all_goals try omega
   all_goals try (rw [hci] at h;exact absurd h (by decide))
   refine j7 g6 (fun j=>([J,J,J,J,S.c (C.ptr 0 0 0),J,S.c (C.ptr 1 0 0),S.c (C.ptr 2 0 0),S.c (C.fn (Fn.func a7F) [C.ptr 2 0 0]),b7 .i64 k,S.c (C.ptr 4 0 0)]++Jn 23++[S.c (C.t (a1S t kind)),b7 .i64 t.ev.moves.length,b7 .i64 k]++Jn 24++[S.c (C.t (E1 (j9 t.finds kind k))),b7 .i64 (j9 t.finds kind k).length,b7 .i64 j]++Jn 20,[a7n,evB t.ev,a3V t.ev.moves.length 3 (G j).length,V5 (G j),az4 t kind k])) (j9 t.finds kind k).length (fun _=>True) [some 0,some 1,some 2,some 5,some 4] trivial ⟨rfl,rfl,⟨⟨rfl,rfl,rfl,.inr ⟨⟨rfl,rfl,trivial⟩,trivial⟩⟩,⟨rfl,rfl,rfl,.inl ⟨rfl,k8 _⟩⟩,⟨rfl,rfl,rfl,.inr ⟨⟨rfl,⟨rfl,rfl,?_,fun h=>h⟩,trivial⟩,trivial⟩⟩,b8 rfl rfl rfl ?_ rfl,⟨rfl,rfl,rfl,.inr (U1 [U4 t kind k])⟩,trivial⟩,⟨⟨rfl,rfl,rfl⟩,⟨rfl,rfl,rfl⟩,⟨rfl,rfl,rfl⟩,⟨rfl,⟨rfl,rfl,rfl⟩,trivial⟩,rfl,⟨rfl,rfl,rfl⟩,rfl,rfl,rfl,rfl,e8 (by simp),rfl,trivial⟩⟩ ?_
   ·simp [hG0,eR,toC]
   ·rw [hG0,eR]<;>rfl
   intro j hj _
   have hGl:(G j).length<=1000000:=by rw [hG];simp [lbq];omega
   by_cases hjt:j<(j9 t.finds kind k).length
   ·obtain ⟨g,hg⟩:∃g,(j9 t.finds kind k)[j]? =some g:=⟨_,lbf hjt⟩
    have gb:=hgr g (lbm hg)
    have ig:=I3 g (by omega) (by omega)
    have eG:G (j+1)=G j++[w7 k 0 (g:Rat)]:=by rw [hG,hG,lbG,hg];simp
    conv=>whnf
    repeat' (first|refine zx ?_|refine qp ig ?_|refine i3 hg ?_|refine .inr ⟨_,_,a0S (id:=3) rfl rfl rfl rfl rfl (by decide) hGl _ _,?_⟩|refine zd ?_ ?_<;>intro h<;>try omega|fail)<;>conv=>whnf
    all_goals try omega
    refine ⟨hjt,trivial,[some 0,some 1,some 2,some 5,some 4],rfl,rfl,⟨⟨rfl,rfl,rfl,.inr ⟨⟨rfl,rfl,trivial⟩,trivial⟩⟩,⟨rfl,rfl,rfl,.inl ⟨rfl,k8 _⟩⟩,⟨rfl,rfl,rfl,.inr ⟨⟨rfl,⟨rfl,rfl,?_,fun h=>h⟩,trivial⟩,trivial⟩⟩,b8 rfl rfl rfl ?_ rfl,⟨rfl,rfl,rfl,.inr (U1 [U4 t kind k])⟩,trivial⟩,⟨⟨rfl,rfl,rfl⟩,⟨rfl,rfl,rfl⟩,⟨rfl,rfl,rfl⟩,⟨rfl,⟨rfl,rfl,rfl⟩,trivial⟩,rfl,⟨rfl,rfl,rfl⟩,rfl,rfl,rfl,rfl,rfl,rfl,trivial⟩⟩
    ·rw [eG];simp
    ·rw [eG]
   have hje:j=(j9 t.finds kind k).length:=by omega
   subst hje
   have hGe:G (j9 t.finds kind k).length=R1++(j9 t.finds kind k).map (fun g:Int=>w7 k 0 (g:Rat)):=by rw [hG,lbn (lbQ _)]
   conv=>whnf
   repeat' (first|refine zx ?_|refine zd ?_ ?_<;>intro h<;>try omega|fail)<;>conv=>whnf
   all_goals try omega
   refine j7 g6 (fun j=>([J,J,J,J,S.c (C.ptr 0 0 0),J,S.c (C.ptr 1 0 0),S.c (C.ptr 2 0 0),S.c (C.fn (Fn.func a7F) [C.ptr 2 0 0]),b7 .i64 k]++Jn 24++[S.c (C.t (a1S t kind)),b7 .i64 t.ev.moves.length,b7 .i64 k]++Jn 37++[b7 .i64 (p8 t.cleans kind k),b7 .i64 j]++Jn 8,[a7n,evB t.ev,a3V t.ev.moves.length 3 (K j).length,V5 (K j)])) (p8 t.cleans kind k) (fun _=>True) [some 0,some 1,some 2,some 3] trivial ⟨rfl,rfl,⟨⟨rfl,rfl,rfl,.inr ⟨⟨rfl,rfl,trivial⟩,trivial⟩⟩,⟨rfl,rfl,rfl,.inl ⟨rfl,k8 _⟩⟩,⟨rfl,rfl,rfl,.inr ⟨⟨rfl,⟨rfl,rfl,?_,fun h=>h⟩,trivial⟩,trivial⟩⟩,b8 rfl rfl rfl ?_ rfl,trivial⟩,⟨⟨rfl,rfl,rfl⟩,⟨rfl,rfl,rfl⟩,⟨rfl,rfl,rfl⟩,⟨rfl,⟨rfl,rfl,rfl⟩,trivial⟩,rfl,rfl,rfl,rfl,rfl,rfl,trivial⟩⟩ ?_
   ·rw [hK0,hGe]
   ·rw [hK0,hGe]
   clear hj hjt
   intro j hj _
   have hKl:(K j).length<=1000000:=by rw [hK];simp [lbq];omega
   by_cases hjt:j<p8 t.cleans kind k
   ·have eK:K (j+1)=K j++[w7 k 2 ((0:Int):Rat)]:=by rw [hK,hK,List.replicate_succ'];simp
    conv=>whnf
    repeat' (first|refine zx ?_|refine qp i0 ?_|refine .inr ⟨_,_,a0S (id:=3) rfl rfl rfl rfl rfl (by decide) hKl _ _,?_⟩|refine zd ?_ ?_<;>intro h<;>try omega|fail)<;>conv=>whnf
    all_goals try omega
    refine ⟨hjt,trivial,[some 0,some 1,some 2,some 4],rfl,rfl,⟨⟨rfl,rfl,rfl,.inr ⟨⟨rfl,rfl,trivial⟩,trivial⟩⟩,⟨rfl,rfl,rfl,.inl ⟨rfl,k8 _⟩⟩,⟨rfl,rfl,rfl,.inr ⟨⟨rfl,⟨rfl,rfl,?_,fun h=>h⟩,trivial⟩,trivial⟩⟩,b8 rfl rfl rfl ?_ rfl,trivial⟩,⟨⟨rfl,rfl,rfl⟩,⟨rfl,rfl,rfl⟩,⟨rfl,rfl,rfl⟩,⟨rfl,⟨rfl,rfl,rfl⟩,trivial⟩,rfl,rfl,rfl,rfl,rfl,rfl,trivial⟩⟩
    ·rw [eK];simp
    ·rw [eK]
   have hje:j=p8 t.cleans kind k:=by omega
   subst hje
   conv=>whnf
   repeat' (first|refine zx ?_|refine zd ?_ ?_<;>intro h<;>try omega|fail)<;>conv=>whnf
   all_goals try omega
   exact ⟨hlt,trivial,[some 0,some 1,some 2,some 3],rfl,rfl,⟨⟨rfl,rfl,rfl,.inr ⟨⟨rfl,rfl,trivial⟩,trivial⟩⟩,⟨rfl,rfl,rfl,.inl ⟨rfl,k8 _⟩⟩,⟨rfl,rfl,rfl,.inr ⟨⟨rfl,⟨rfl,rfl,hKs.2,fun h=>h⟩,trivial⟩,trivial⟩⟩,b8 rfl rfl rfl hKs.1 rfl,trivial⟩,⟨⟨rfl,rfl,rfl⟩,⟨rfl,rfl,rfl⟩,⟨rfl,rfl,rfl⟩,⟨rfl,⟨rfl,rfl,rfl⟩,trivial⟩,rfl,rfl,rfl,trivial⟩⟩
 ·have hke:k=t.ev.moves.length:=by omega
  subst hke
  conv=>whnf
  repeat' (first|refine zx ?_|refine zd ?_ ?_<;>intro h<;>try omega|fail)<;>conv=>whnf
  all_goals try omega
  exact ⟨[some 3],rfl,rfl,⟨b8 (rows:=(v8 t kind t.ev.moves.length).map D9) rfl rfl rfl rfl rfl,trivial⟩,⟨⟨rfl,⟨rfl,rfl,rfl,fun h=>h⟩,trivial⟩,rfl,trivial⟩⟩
theorem a7g (t:g7) (kind:Int) (hs:t.Sized):b9 Tryz.prog 64 [trS t,b7 .i64 kind] [] (.tup [a1s (aP0 t kind),b7 .i64 (a1k t kind)]) []:=by
 have ck:=a38 t hs
 have m2:(t.ev.moves.map t4.row).length=t.ev.moves.length:=by simp
 by_cases h1:n9 t≠0∨kind<0∨8<=kind
 ·have e1:a1k t kind=1:=by unfold a1k;rw [if_pos h1]
  have e2:aP0 t kind=⟨0,[]⟩:=by unfold aP0;rw [if_pos h1]
  rw [e1,e2]
  (refine ac Tryz.func64 ?_;(conv=>whnf);repeat ((first|refine b0x ?_|refine zy ?_);conv=>whnf))
  repeat' (first|refine zx ?_|refine qp ck ?_|refine zd ?_ ?_<;>intro h<;>try omega|fail)<;>conv=>whnf
  all_goals first
   |omega
   |exact s7 ⟨⟨rfl,rfl,trivial⟩,rfl,trivial⟩
 have e1:a1k t kind=0:=by unfold a1k;rw [if_neg h1]
 have e2:aP0 t kind=n8 t kind:=by unfold aP0;rw [if_neg h1]
 rw [e1,e2]
 exact b38 (b2S t kind hs h1) (s7 ⟨⟨rfl,show VC _ (fun id=>O3 [] id=true) _ _ from B7 rfl rfl (by intro h;cases h) rfl rfl (by rw [lbr]),trivial⟩,rfl,trivial⟩)
theorem aG9 {P:Program} {g:FuncId} {x:S} {H H':Hp} {r:S} (h:b9 P g [x,w6 []] H r H'):b9 P g [x,.c (.t (.sl 0 .nil []))] H r H':=by
 refine aa2 h rfl fun w ι M j a b v hx hy hr=>?_
 rcases j with _|_|j
 ·injection hx with hx;injection hy with hy;subst hx hy;exact hr
 ·injection hx with hx;injection hy with hy;subst hx hy
  cases hr with
  |c hr=>cases hr with
   |t hr=>exact .c (.t (hr.weak rfl))
 ·simp at hx
theorem aI4 (z:List Rat):n7 [] z=0:=rfl
theorem a9x {s:l9} (hr:p5 s=true):J2 s []=.best∨∃r,J2 s []=.row r:=by
 rcases a8o s [] with h|h|⟨c,h⟩
 ·exact .inl h
 ·exact .inr h
 ·have:=(a9C hr rfl h).2
  rw [aI4] at this
  exact absurd this (by decide)
theorem a4o (s:l9) (n B:Nat) (h:E8 s [] n B) (hout:J2 s []=.best) (hpt:∀v ∈ p7 s [],rl v<=40000):
 b9 Tryz.prog 74 [a1s s] [] (.tup [G3 ((p7 s []).map fz),.c (.t (.sl 0 .nil [])),j0 true]) []:=by
 have le:=aG9 (a3F s [] n B h hout (fun k=>by rw [List.take_nil,aI4];have:=rl0;omega) hpt)
 (refine ac Tryz.func74 ?_;(conv=>whnf);repeat ((first|refine b0x ?_|refine zy ?_);conv=>whnf))
 repeat' (first|refine zx ?_|refine qp 4 ?_|refine qp (4,6) ?_|refine .inr ⟨_,_,le,?_⟩|refine bl0 [4] ?_|refine bl0 [4,6] ?_|refine zd ?_ ?_<;>intro h<;>try omega|fail)<;>conv=>whnf
 all_goals first
  |omega
  |exact s7 ⟨rfl,rfl,rfl,trivial⟩
theorem a65 (s:l9) (n B r:Nat) (h:E8 s [] n B) (hout:J2 s []=.row r):
 b9 Tryz.prog 74 [a1s s] [] (.tup [.c (.t (.sl 0 .nil [])),G3 (rF s.rows.length (a91 s (F9 s []) r)),j0 false]) []:=by
 have le:=aG9 (aJ4 s [] n B r h hout)
 (refine ac Tryz.func74 ?_;(conv=>whnf);repeat ((first|refine b0x ?_|refine zy ?_);conv=>whnf))
 repeat' (first|refine zx ?_|refine qp 4 ?_|refine qp (4,6) ?_|refine .inr ⟨_,_,le,?_⟩|refine bl0 [4] ?_|refine bl0 [4,6] ?_|refine zd ?_ ?_<;>intro h<;>try omega|fail)<;>conv=>whnf
 all_goals first
  |omega
  |exact s7 ⟨rfl,(show VC _ (fun id=>O3 [] id=true) (C.own 0 0 s.rows.length true) _ from B7 (k:=flB (rF s.rows.length (a91 s (F9 s []) r))) rfl rfl (fun h=>h) rfl rfl (by simp [P7])),rfl,trivial⟩
theorem a0W {α:Type} {f:α->List T} {l:List α} {x:α} {n:Nat} (h:n=l.length):List.take n (toC (l.map f))++toC [f x]=toC ((l++[x]).map f):=by
 rw [lbn (by simp [toC,h])]
 simp [toC]
def a16 (l:List (Int × Rat)) (f:Rat):List (Int × Rat):=l.map fun t=>(t.1,t.2*f)
theorem a9d (l:List (Int × Rat)) (f:Rat) {k:Nat} {t:Int × Rat} (h:l[k]? =some t):(a16 l f).take (k+1)=(a16 l f).take k++[(t.1,t.2*f)]:=by
 rw [lbG]
 congr 1
 unfold a16
 rw [lba,h];rfl
theorem a1R (l:List (Int × Rat)) (f:Rat):(a16 l f).length=l.length:=by simp [a16]
theorem b8h (l:List (Int × Rat)) (f:Rat) (hf:f≠0) (hr:k7 (-1) 1500 l=true) (hb:∀t ∈ l,rl t.2<=200) (hfb:rl f<=200):
 b9 Tryz.prog 156 [w6 l,frS (fz f)] [] (w6 (a16 l f)) []:=by
 have hl:=J1 hr
 have m1:(l.map H9).length=l.length:=by simp
 have rt:=U5 l 1500 (by omega) hb
 rw [lbH (by omega),hr] at rt
 have sg:=X8 f (by omega)
 have sz:=a51 (x:=f)
 have hs0:sgR f≠0:=fun h=>hf (sz.1 h)
 (refine ac Tryz.func156 ?_;(conv=>whnf);repeat ((first|refine b0x ?_|refine zy ?_);conv=>whnf))
 repeat' (first|refine zx ?_|refine qp rt ?_|refine qp sg ?_|refine zd ?_ ?_<;>intro h<;>try omega|fail)<;>conv=>whnf
 all_goals try omega
 all_goals try (exfalso;simp_all;done)
 refine j7 g6 (fun k=>([J,J,J,S.c (C.t (T.ptr (s9 (fz f)))),J,S.c (C.own 0 0 k true)]++Jn 12++[w6 l,b7 .i64 l.length,b7 .i64 k]++Jn 19,[af3 ((a16 l f).take k)])) l.length (fun _=>True) [none] trivial
  ⟨rfl,rfl,⟨⟨rfl,rfl⟩,trivial⟩,⟨k9 rfl,⟨rfl,rfl,rfl⟩,k9 rfl,e8 (by omega),e8 rfl,trivial⟩⟩ ?_
 intro k hk _
 by_cases hlt:k<l.length
 ·obtain ⟨t,ht⟩:∃t,l[k]? =some t:=⟨_,lbf hlt⟩
  have bt:=hb t (lbm ht)
  have mu:=b07 t.2 f (by omega) (by omega)
  have lk:((a16 l f).take k).length=k:=by rw [lbs,a1R];omega
  have lA:k<=(af3 ((a16 l f).take k)).rows.length:=by show k<=(toC _).length;simp [toC,a1R];omega
  conv=>whnf
  repeat' (first|refine zx ?_|refine qp mu ?_|refine qp toC ?_|refine qp 6 ?_|refine i3 ht ?_|refine D5 lA (by simp [toC];omega) ?_|refine bl0 [6] ?_|refine zd ?_ ?_<;>intro h<;>try omega|fail)<;>conv=>whnf
  all_goals first
   |omega
   |(refine ⟨hlt,trivial,[some 3],rfl,rfl,⟨b8 (rows:=((a16 l f).take (k+1)).map H9) rfl rfl rfl ?_ rfl,trivial⟩,⟨rfl,⟨rfl,rfl,rfl,fun h=>h⟩,rfl,rfl,e8 (by omega),trivial⟩⟩
     rw [a9d l f ht]
     exact a0W (f:=H9) (x:=(t.1,t.2*f)) lk.symm)
 ·have hke:k=l.length:=by omega
  subst hke
  conv=>whnf
  repeat' (first|refine zx ?_|refine zd ?_ ?_<;>intro h<;>try omega|fail)<;>conv=>whnf
  all_goals first
   |omega
   |exact R3 rfl (fun h=>h) rfl (by rw [lbn (by rw [a1R];exact lbQ _)]) (by simp [a1R])
theorem a93 {n n':Int} (h:n<=n'):∀{last:Int} {l:List (Int × Rat)},k7 last n l=true->k7 last n' l=true
 |_,[],_=>rfl
 |last,a::r,hr=>by
  unfold k7 at hr ⊢
  simp only [lbM,lbI] at hr ⊢
  exact ⟨⟨⟨hr.1.1.1,by omega⟩,hr.1.2⟩,a93 h hr.2⟩
def F6 (l:List (Int × Rat)):List (Int × Rat):=a16 l ((-1:Int):Rat)
theorem a6l (l:List (Int × Rat)) (hr:k7 (-1) 1500 l=true) (hb:∀t ∈ l,rl t.2<=200):b9 Tryz.prog 86 [w6 l] [] (w6 (F6 l)) []:=by
 have i1:=I3 (-1) (by decide) (by decide)
 have tm:=b8h l ((-1:Int):Rat) (by decide) hr hb (by have:=B5 (x:=-1) (by decide) (by decide);have:=B5 (x:=1) (by decide) (by decide);show max (bl (-1)) (bl 1)<=200;omega)
 (refine ac Tryz.func86 ?_;(conv=>whnf);repeat ((first|refine b0x ?_|refine zy ?_);conv=>whnf))
 repeat' (first|refine zx ?_|refine qp i1 ?_|refine qp tm ?_|refine zd ?_ ?_<;>intro h<;>try omega|fail)<;>conv=>whnf
 exact s7 (H1:=[]) (k9 (ρ:=[]) (H:=[]) rfl)
def a5R (l:List Int):List (Int × Rat):=l.map fun i=>(i,((1:Int):Rat))
def F5 (t:g7) (h:Int):List (Int × Rat):=a5R (Q2 t.ev h (-1) 0 100000)
def b1M (t:g7) (h:Int):List (Int × Rat):=if n9 t=0∧0<=h∧h<t.ev.hhs then F5 t h else []
theorem b5B {H1:Hp}:Fin 0 (.c (.t (.sl 0 .nil []))) H1 (w6 []) []:=s7 (show a9p [] H1 (.c (.t (.sl 0 .nil []))) (w6 []) from rfl)
theorem av0 {l:List Int} {k:Nat} {x:Int} (h:l[k]? =some x):a5R (l.take (k+1))=a5R (l.take k)++[(x,((1:Int):Rat))]:=by
 rw [lbG,h];unfold a5R;simp
theorem b8l (t:g7) (hs:t.Sized) (hh:Int) (hl:(Q2 t.ev hh (-1) 0 100000).length<=100000):b9 Tryz.prog 31 [trS t,b7 .i64 hh] [] (w6 (b1M t hh)) []:=by
 have ck:=a38 t hs
 have li:=b0N t.ev hs.ev hh (-1) 0 100000
 have i1:=I3 1 (by decide) (by decide)
 by_cases hc:n9 t=0∧0<=hh∧hh<t.ev.hhs
 ·have e:b1M t hh=F5 t hh:=if_pos hc
  rw [e]
  obtain ⟨c1,c2,c3⟩:=hc
  have m1:((Q2 t.ev hh (-1) 0 100000).map g9).length=(Q2 t.ev hh (-1) 0 100000).length:=by simp
  (refine ac Tryz.func31 ?_;(conv=>whnf);repeat ((first|refine b0x ?_|refine zy ?_);conv=>whnf))
  repeat' (first|refine zx ?_|refine qp ck ?_|refine qp li ?_|refine zd ?_ ?_<;>intro h<;>try omega|fail)<;>conv=>whnf
  all_goals try omega
  refine j7 g6 (fun k=>([J,J,J,J,J,S.c (C.own 0 0 k true)]++Jn 19++[i7 (Q2 t.ev hh (-1) 0 100000),b7 .i64 (Q2 t.ev hh (-1) 0 100000).length,b7 .i64 k]++Jn 11,[af3 (a5R ((Q2 t.ev hh (-1) 0 100000).take k))])) (Q2 t.ev hh (-1) 0 100000).length (fun _=>True) [none] trivial
   ⟨rfl,rfl,⟨⟨rfl,rfl⟩,trivial⟩,⟨⟨rfl,rfl,rfl⟩,k9 rfl,e8 (by omega),e8 rfl,trivial⟩⟩ ?_
  intro k hk _
  by_cases hlt:k<(Q2 t.ev hh (-1) 0 100000).length
  ·obtain ⟨x,hx⟩:∃x,(Q2 t.ev hh (-1) 0 100000)[k]? =some x:=⟨_,lbf hlt⟩
   have lk:(a5R ((Q2 t.ev hh (-1) 0 100000).take k)).length=k:=by unfold a5R;rw [lbr,lbs];omega
   have lA:k<=(af3 (a5R ((Q2 t.ev hh (-1) 0 100000).take k))).rows.length:=by show k<=(toC _).length;rw [toC,lbr,lbr,lk];exact lbQ _
   conv=>whnf
   repeat' (first|refine zx ?_|refine qp i1 ?_|refine qp toC ?_|refine i3 hx ?_|refine D5 lA (by simp [toC];omega) ?_|refine zd ?_ ?_<;>intro h<;>try omega|fail)<;>conv=>whnf
   all_goals first
    |omega
    |(refine ⟨hlt,trivial,[some 1],rfl,rfl,⟨b8 (rows:=(a5R ((Q2 t.ev hh (-1) 0 100000).take (k+1))).map H9) rfl rfl rfl ?_ rfl,trivial⟩,⟨⟨rfl,rfl,rfl,fun h=>h⟩,rfl,rfl,e8 (by omega),trivial⟩⟩
      rw [av0 hx]
      exact a0W (f:=H9) (x:=(x,((1:Int):Rat))) lk.symm)
  ·have hke:k=(Q2 t.ev hh (-1) 0 100000).length:=by omega
   subst hke
   conv=>whnf
   repeat' (first|refine zx ?_|refine zd ?_ ?_<;>intro h<;>try omega|fail)<;>conv=>whnf
   all_goals first
    |omega
    |exact R3 rfl (fun h=>h) rfl (by rw [lbn (lbQ _)];rfl) (by simp [F5,a5R])
 ·have e:b1M t hh=[]:=if_neg hc
  rw [e]
  (refine ac Tryz.func31 ?_;(conv=>whnf);repeat ((first|refine b0x ?_|refine zy ?_);conv=>whnf))
  repeat' (first|refine zx ?_|refine qp ck ?_|refine qp li ?_|refine zd ?_ ?_<;>intro h<;>try omega|fail)<;>conv=>whnf
  all_goals first
   |omega
   |exact b5B
theorem b3K (l:List Fr) (h0:0<l.length) (h1:l.length<=100000):b9 Tryz.prog 224 [G3 l] [] (.c (.own 0 0 l.length true)) [flB l]:=by
 have m1:(l.map s9).length=l.length:=by simp
 have hl:0<(l.map s9).length:=by omega
 (refine ac Tryz.func224 ?_;(conv=>whnf);repeat (refine zy ?_;conv=>whnf))
 repeat' (first|refine zx ?_|refine qp (toC,lbr,List.length_nil) ?_|refine qp (toC,lbr) ?_|refine ⟨hl,?_⟩|refine zz ?_|refine P6 rfl (by simp only [toC,lbr,List.length_nil];omega) ?_|refine D5 (Nat.zero_le _) (by simp only [toC,lbr];omega) ?_|refine zd ?_ ?_<;>intro h<;>try omega|fail)<;>conv=>whnf
 all_goals first
  |omega
  |exact ⟨[some 0],rfl,rfl,⟨b8 (rows:=l.map s9) rfl rfl rfl rfl rfl,trivial⟩,⟨rfl,rfl,by simp [toC],fun h=>h⟩⟩
def smF (a b:Nat->Rat) (k:Nat):Nat->Rat:=fun j=>if j<k then a j+b j else a j
theorem b9G (n:Nat) (a b:Nat->Rat) (h0:0<n) (hn:n<=1000) (ha:∀j,j<n->rl (a j)<=60000) (hb:∀j,j<n->rl (b j)<=60000):
 b9 Tryz.prog 142 [G3 (rF n a),G3 (rF n b)] [] (G3 (rF n fun j=>a j+b j)) []:=by
 have m1:((rF n b).map s9).length=n:=by simp [P7]
 have cl:=b3K (rF n a) (by rw [P7];exact h0) (by rw [P7];omega)
 rw [P7] at cl
 have e9:rF n (fun j=>a j+b j)=rF n (smF a b n):=G1 fun j hj=>by unfold smF;rw [if_pos hj]
 rw [e9]
 (refine ac Tryz.func142 ?_;(conv=>whnf);repeat (refine zy ?_;conv=>whnf))
 repeat' (first|refine zx ?_|refine .inr ⟨_,_,cl,?_⟩|refine zd ?_ ?_<;>intro h<;>try omega|fail)<;>conv=>whnf
 refine j7 g6 (fun k=>([J,J,J,J,J,S.c (C.own 0 0 n true),J,J,J,J,G3 (rF n b),b7 .i64 n,b7 .i64 k]++Jn 18,[flB (rF n (smF a b k))])) n (fun _=>True) [some 0] trivial
  ⟨rfl,rfl,⟨b8 (rows:=(rF n a).map s9) rfl rfl rfl rfl (by rw [G1 (g:=smF a b 0) (h:=a) fun j hj=>by unfold smF;rw [if_neg (by omega)]]),trivial⟩,⟨⟨rfl,rfl,rfl,fun h=>h⟩,k9 rfl,e8 (by omega),e8 rfl,trivial⟩⟩ ?_
 intro k hk _
 by_cases hlt:k<n
 ·have eK:0+(k:Int).toNat=k:=by omega
  have ad:=a5f (a k) (b k) (ha k hlt) (hb k hlt)
  have gp:(rF n (smF a b k))[0+(k:Int).toNat]? =some (fz (a k)):=by rw [eK,L2 hlt];unfold smF;rw [if_neg (by omega)]
  have e:C2 (flB (rF n (smF a b k))) ((flB (rF n (smF a b k))).rows.set (0+(k:Int).toNat) (frC (fz (a k+b k))))=flB (rF n (smF a b (k+1))):=by
   rw [P2 eK,a05 hlt]
   refine congrArg flB (G1 fun j hj=>?_)
   unfold smF
   by_cases h:j=k
   ·subst h;rw [if_pos rfl,if_pos (by omega)]
   ·rw [if_neg h]
    have:(j<k)↔(j<k+1):=by omega
    simp only [this]
  conv=>whnf
  repeat' (first|refine zx ?_|refine qp ad ?_|refine qp 10 ?_|refine a40 rfl hlt ?_|refine q9 gp ?_|refine bl0 [10] ?_|refine zd ?_ ?_<;>intro h<;>try omega|fail)<;>conv=>whnf
  all_goals first
   |omega
   |exact ⟨hlt,trivial,[some 0],rfl,rfl,⟨⟨rfl,rfl,rfl,.inl ⟨congrArg Blk.rows e,(congrArg Blk.rows e) ▸ i8 _⟩⟩,trivial⟩,⟨⟨rfl,rfl,rfl,fun h=>h⟩,rfl,rfl,e8 (by omega),trivial⟩⟩
 ·have hke:k=n:=by omega
  subst hke
  conv=>whnf
  repeat' (first|refine zx ?_|refine zd ?_ ?_<;>intro h<;>try omega|fail)<;>conv=>whnf
  all_goals first
   |omega
   |exact R3 rfl (fun h=>h) rfl rfl (by simp [P7])
theorem aY0 {P:Program} {g:FuncId} {args:List S} {H:Hp} {b:Blk} {r r':S} {rows:List (List T)} (h:b9 P g args [] r [b]) (ha:args=args.map (a5U [])) (hok:args.all (okS 0)=true) (hm:b.mode=.live) (hb:b.rows=toC rows) (hr:av2 r=true)
 (hr':r'=a5U [H.length] r):b9 P g args H r' (H++[b]):=by
 have ex:a3S [] H.length (([b]:Hp).length - ([]:Hp).length)=[H.length]:=rfl
 refine L6 [] h ha hok rfl List.nodup_nil (by simp) (fun k hk=>?_) (by simp) hr (by rw [ex];exact hr') (by simp) ?_ ?_
 ·simp at hk;subst hk;rw [hm];intro h;cases h
 ·intro i k hk
  rw [ex]
  rcases i with _|i
  ·injection hk with hk;subst hk
   refine ⟨b,?_,E4 hb⟩
   show (H++[b])[H.length]? =_
   rw [lbc (lbQ _)];simp
  ·simp at hk
 ·intro j hj _
  rw [lbb hj]
theorem b08 {P:Program} {g:FuncId} {args:List S} {H:Hp} {b:Blk} {cs:List C} {s2:S} {j lo len:Nat} {app:Bool} (h:b9 P g args [] (.tup [.agg cs,s2]) [b]) (ha:args.all S.isT=true) (hm:b.mode=.live) (hb:L8 b.rows)
 (hf:av2 (.tup [.agg cs,s2])=true) (hj:cs[j]? =some (.own 0 lo len app)):Y9 P g args H (a5U [H.length] (.tup [.agg cs,s2])) [b]:=by
 refine ⟨h.1,fun w ι M vals hl hv hH hM hf0=>?_⟩
 have:=h.2 w (fun _=>none) M vals hl (fun j s hj=>(hv j s hj).tree (lbv.1 ha s (lbm hj)))
  ⟨by simp,by simp,by simp,by simp,by simp⟩ hM (fun _ _=>rfl)
 refine Calls.mono this ?_
 rintro e w' ⟨v,rfl,ι',M',h1,h2,h3,h4,h5⟩
 have hnl:∀x,¬a34 (fun _=>none) ([]:Hp) x:=by rintro x ⟨id,k,_,_,hk,_⟩;simp at hk
 obtain ⟨l,hl0⟩:∃l,ι' 0=some l:=by
  cases h1 with
  |tup vs hl hr=>
   have h0:=hr 0 _ rfl
   generalize vs.getD 0 undef=v0 at h0
   cases h0 with
   |agg us hl hr=>
    have h9:=hr j _ hj
    generalize us.getD j undef=v9 at h9
    cases h9 with
    |own hi=>exact ⟨_,hi⟩
    |nil hi=>exact ⟨_,hi⟩
 have hnew:C3 ι H.length [b].length (fun _=>l) H.length=some l:=by unfold C3;simp
 have hMM:∀x,a53 M [b].length (fun _=>l) x->M' x:=by
  intro x hx
  rcases hx with hx|⟨k,hk,cap,size,he⟩
  ·rcases h5.mold x hx with h|h
   ·exact h
   ·exact absurd h (hnl x)
  ·have he:l=.blk x cap size:=he
   subst he
   exact h2.liv 0 b rfl hm x cap size hl0
 refine ⟨v,rfl,fun _=>l,?_,⟨h5.os,h5.tape,h5.output,h5.size,fun x hx=>h5.keep x hx (hnl x)⟩,?_,?_,?_⟩
 ·refine RS.keep (w:=w') (ι:=C3 ι H.length [b].length (fun _=>l)) (M:=M') (fun _ _ _=>rfl) (fun x hx=>.inl (hMM x hx)) (fun _ _ h=>h) (RS.ren (σ:=[H.length]) (fun id l' hi=>?_) hf h1)
  rcases id with _|id
  ·rw [hl0] at hi;injection hi with hi;subst hi;exact hnew
  ·rw [h4 (id+1) (by simp)] at hi;cases hi
 ·intro k blk hk
  cases k with
  |succ k=>simp at hk
  |zero=>
   simp at hk
   subst hk
   refine ⟨hm,?_⟩
   have hbr:=h2.blk 0 b rfl (by rw [hm];intro h;cases h) l hl0
   cases l with
   |nil=>exact hbr
   |blk x cap size=>
    obtain ⟨r1,r2,r3,r4,r5,cur,r6,r7,r8⟩:=hbr
    refine ⟨r1,r2,r3,r4,r5,cur,r6,r7,fun i j c hc=>?_⟩
    obtain ⟨u,u1,u2⟩:=r8 i j c hc
    exact ⟨u,u1,al0 hMM hb hc u2⟩
 ·intro k x cap size hk he
  have he:l=.blk x cap size:=he
  subst he
  refine ⟨?_,h3 x (h2.liv 0 b rfl hm x cap size hl0)⟩
  rcases h5.live x ⟨0,b,cap,size,rfl,hm,hl0⟩ with h|h
  ·exact absurd h (hnl x)
  ·exact h
 ·intro k k' x cap size cap' size' hk hk' _ _
  simp at hk hk'
  omega
structure a4l where
 hh:Int
 state:Int
 w:List Rat
 wo:List Rat
 pr:List Rat
def a4l.row (v:a4l):List T:=[ti v.hh,ti v.state,R0 (v.w.map fz),R0 (v.wo.map fz),R0 (v.pr.map fz)]
abbrev b65 (v:a4l):S:=.agg (v.row.map C.t)
theorem az7 {x:Rat}:sgR x > 0↔0<x:=by unfold sgR;split<;>(try split)<;>simp_all<;>grind
theorem b5N {x:Rat}:sgR x<0↔x<0:=by unfold sgR;split<;>(try split)<;>simp_all
structure b2I (s:l9) (g:List (Int × Rat)) (n B B1 B0:Nat):Prop where
 p:E8 s g n B
 q:E8 s (F6 g) n B1
 z:E8 s [] n B0
 g5:k7 (-1) 1500 g=true
 v:∀k,rl (n7 (g.take k) (p7 s g))<=50000
 u:∀k,rl (n7 ((F6 g).take k) (p7 s (F6 g)))<=50000
theorem a7O {s:l9} {g:List (Int × Rat)} {n B:Nat} (h:E8 s g n B):∀v ∈ p7 s g,rl v<=17000:=by
 intro v hv
 have hb:=a8G h
 have hn:=h.nn
 have hB:=h.bb
 obtain ⟨j,hj,rfl⟩:=aD0 hv
 have hp:Y3 (g8 s).length s.n.toNat (F9 s g):=X4.p
 rw [hn] at hj hp ⊢
 rw [← aV0 hp hj]
 have key:∀k,k<=(g8 s).length->rl (ptK n (F9 s g).O (F9 s g).V (fun _=>0) k j)<=17000:=by
  intro k
  induction k with
  |zero=>intro _;have:=rl0;show rl 0<=_;omega
  |succ k ih=>
   intro hk
   rw [R7]
   simp only
   split
   ·have:=hb.v k (by omega);omega
   ·exact ih (by omega)
 exact key _ (lbQ _)
noncomputable def b99 (s:l9) (g:List (Int × Rat)) (hh:Int):a4l:=⟨hh,2,p7 s g,[],zOf s.rows.length (a2z s (F9 s g))++[((-1:Int):Rat)]⟩
theorem a9E {s:l9} {g:List (Int × Rat)} {n B:Nat} (h:E8 s g n B) (hout:J2 s g=.best) (hS:∀k,rl (n7 (g.take k) (p7 s g))<=50000) (H:Hp):
 b9 Tryz.prog 141 [a1s s,w6 g] H (.tup [.agg (C.t (ti 0)::frC (fz (n7 g (p7 s g)))++[.t (R0 ((p7 s g).map fz)),.own H.length 0 s.rows.length true,.t (.sl 0 .nil [])]),b7 .i64 0]) (H++[flB (rF s.rows.length (a2z s (F9 s g)))]):=
 aY0 (a3F s g n B h hout (fun k=>by have:=hS k;omega) (fun v hv=>by have:=a7O h v hv;omega)) rfl rfl rfl rfl rfl rfl
theorem aZ3 {R:Nat} {y:Nat->Rat} {x:Rat}:(toC ((rF R y).map s9)).take R++toC [s9 (fz x)]=toC (((zOf R y++[x]).map fz).map s9):=by
 have e:(zOf R y++[x]).map fz=rF R y++[fz x]:=by rw [lbC,a6p];rfl
 rw [a0W (f:=s9) (l:=rF R y) (x:=fz x) (P7 R y).symm,e]
theorem b6u {s:l9} {g:List (Int × Rat)} {n B:Nat} (h:E8 s g n B) (hout:J2 s g=.best) (hS:∀k,rl (n7 (g.take k) (p7 s g))<=50000) (H:Hp):
 Y9 Tryz.prog 141 [a1s s,w6 g] H (.tup [.agg (C.t (ti 0)::frC (fz (n7 g (p7 s g)))++[.t (R0 ((p7 s g).map fz)),.own H.length 0 s.rows.length true,.t (.sl 0 .nil [])]),b7 .i64 0]) [flB (rF s.rows.length (a2z s (F9 s g)))]:=
 b08 (j:=6) (lo:=0) (len:=s.rows.length) (app:=true) (a3F s g n B h hout (fun k=>by have:=hS k;omega) (fun v hv=>by have:=a7O h v hv;omega)) rfl rfl (i8 _) rfl rfl
theorem ac0 (s:l9) (g:List (Int × Rat)) (n B B1 B0:Nat) (h:b2I s g n B B1 B0) (hh:Int) (hout:J2 s g=.best) (hv:0<n7 g (p7 s g)):
 b9 Tryz.prog 75 [a1s s,w6 g,b7 .i64 hh] [] (b65 (b99 s g hh)) []:=by
 have le:=a9E h.p hout h.v
 have vb:=h.v g.length
 rw [List.take_length] at vb
 have sg:=X8 (n7 g (p7 s g)) (by omega)
 have sp:=az7.2 hv
 have i1:=I3 (-1) (by decide) (by decide)
 have hR:=h.p.r
 (refine ac Tryz.func75 ?_;(conv=>whnf);repeat ((first|refine b0x ?_|refine zy ?_);conv=>whnf))
 repeat' (first|refine ag6 [0,1,2,3,4,5,7,6,8,9,10,11,12] (by decide +kernel) (by decide +kernel) ?_|refine zz ?_|refine zz ?_|refine zz ?_|refine zz ?_|refine zz ?_|refine zz ?_|refine qp sg ?_|refine qp i1 ?_|refine qp 5 ?_|refine qp (toC,P7) ?_|refine qp toC ?_|refine qp (0,1,2,3,4,5,7,6,8,9,10,11,12) ?_|refine qp (0,1,6) ?_|refine qp (0,1) ?_|refine .inr ⟨_,_,le _,?_⟩|refine bl0 [5] ?_|refine D5 (by simp [toC,P7]) (by simp [toC];omega) ?_|refine bl0 [0,1,6] ?_|refine bl0 [0,1] ?_|refine zd ?_ ?_<;>intro h<;>try omega|refine zy ?_|fail)<;>conv=>whnf
 all_goals first
  |omega
  |exact s7 ⟨rfl,rfl,rfl,rfl,(show VC _ (fun id=>O3 [] id=true) (C.own 4 0 (s.rows.length+1) true) _ from B7 (k:={ mode:=.live,elem:=86,size:=4,rows:=(toC ((rF s.rows.length (a2z s (F9 s g))).map s9)).take s.rows.length++toC [s9 (fz ((-1:Int):Rat))],box:=false }) rfl rfl (fun h=>h) rfl aZ3 (by simp [zOf])),trivial⟩
noncomputable def aE6 (s:l9) (g:List (Int × Rat)) (c:Nat) (hh:Int):a4l:=⟨hh,1,zOf s.n.toNat fun j=>N4 (g8 s).length s.n.toNat (F9 s []) 1 (fun _=>0) j+N4 (g8 s).length s.n.toNat (F9 s (F6 g)) 0 (fun q=>if q=c then 1 else 0) j,p7 s g,[]⟩
noncomputable def b9c (s:l9) (g:List (Int × Rat)) (hh:Int):a4l:=⟨hh,1,p7 s (F6 g),p7 s g,[]⟩
noncomputable def aA0 (s:l9) (g:List (Int × Rat)) (hh:Int):a4l:=⟨hh,0,[],p7 s g,zOf s.rows.length (a2z s (F9 s (F6 g)))⟩
theorem b89 {s:l9} {g:List (Int × Rat)} {n B B0 c:Nat} (h:E8 s g n B) (h0:E8 s [] n B0) (hout:J2 s g=.col c) (hout0:J2 s []=.best) (H:Hp):
 Y9 Tryz.prog 141 [a1s s,w6 g] H (.tup [.agg (C.t (ti 2)::bc3++[.t (R0 ((p7 s []).map fz)),.t (.sl 0 .nil []),.t (R0 ((a9n s g c).map fz))]),b7 .i64 0]) []:=
 E9 (aA4 s g n B B0 c h h0 hout hout0) rfl rfl
theorem b9N {s:l9} {g:List (Int × Rat)} {n B c:Nat} (h:E8 s g n B) (hc:c<n) {j:Nat} (hj:j<n):rl (N4 (g8 s).length n (F9 s g) 0 (fun q=>if q=c then 1 else 0) j)<=17000:=by
 have hb:=a8G h
 have hB:=h.bb
 have hp:Y3 (g8 s).length n (F9 s g):=by have hn:=h.nn;subst hn;exact X4.p
 rw [← b1a hp hc hj]
 have key:∀k,k<=(g8 s).length->rl (ptK n (F9 s g).O (fun i=>-((F9 s g).A i c)) (fun j=>if (F9 s g).F c<n∧j=(F9 s g).F c then 1 else 0) k j)<=17000:=by
  intro k
  induction k with
  |zero=>
   intro _
   have:=rl0;have:=rl1
   show rl (if _ then (1:Rat) else 0)<=_
   split<;>omega
  |succ k ih=>
   intro hk
   rw [R7]
   simp only
   split
   ·rw [a2T];have:=hb.a k (by omega) c hc;omega
   ·exact ih (by omega)
 exact key _ (lbQ _)
theorem an8 (s:l9) (g:List (Int × Rat)) (n B B1 B0 c:Nat) (h:b2I s g n B B1 B0) (hh:Int) (hout:J2 s g=.best) (hv:¬0<n7 g (p7 s g)) (hq:J2 s (F6 g)=.col c) (hz:J2 s []=.best):
 b9 Tryz.prog 75 [a1s s,w6 g,b7 .i64 hh] [] (b65 (aE6 s g c hh)) []:=by
 have le:=a9E h.p hout h.v
 have vb:=h.v g.length
 rw [List.take_length] at vb
 have sg:=X8 (n7 g (p7 s g)) (by omega)
 have sp:¬sgR (n7 g (p7 s g)) > 0:=fun e=>hv (az7.1 e)
 have hR:=h.p.r
 have op:=a6l g h.g5 h.p.gb
 have l2:=b89 h.q h.z hq hz
 have hn:=h.p.nn
 have hcn:c<n:=by have:=(al2 hq).1;omega
 have e1:(p7 s []).map fz=rF n (N4 (g8 s).length n (F9 s []) 1 (fun _=>0)):=by unfold p7;rw [a6p,hn]
 have e2:(a9n s (F6 g) c).map fz=rF n (N4 (g8 s).length n (F9 s (F6 g)) 0 (fun q=>if q=c then 1 else 0)):=by unfold a9n;rw [a6p,hn]
 have sm:=b9G n (N4 (g8 s).length n (F9 s []) 1 (fun _=>0)) (N4 (g8 s).length n (F9 s (F6 g)) 0 (fun q=>if q=c then 1 else 0)) (by omega) h.p.o.n1
  (fun j hj=>by
    have:rl (N4 (g8 s).length n (F9 s []) 1 (fun _=>0) j)<=17000:=a7O h.z _ (by unfold p7;rw [hn];exact lbx.2 ⟨j,lbB.2 hj,rfl⟩)
    omega)
  (fun j hj=>by have:=b9N h.q hcn hj;omega)
 rw [← e1,←e2] at sm
 have e3:rF n (fun j=>N4 (g8 s).length n (F9 s []) 1 (fun _=>0) j+N4 (g8 s).length n (F9 s (F6 g)) 0 (fun q=>if q=c then 1 else 0) j)=(aE6 s g c hh).w.map fz:=by
  unfold aE6;simp only;rw [a6p,hn]
 rw [e3] at sm
 (refine ac Tryz.func75 ?_;(conv=>whnf);repeat ((first|refine b0x ?_|refine zy ?_);conv=>whnf))
 repeat' (first|refine zx ?_|refine qp sg ?_|refine qp op ?_|refine qp sm ?_|refine qp 5 ?_|refine qp 6 ?_|refine qp 0 ?_|refine .inr ⟨_,_,le _,?_⟩|refine .inl ⟨_,_,l2 _,?_⟩|refine bl0 [5] ?_|refine bl0 [6] ?_|refine bl0 [0] ?_|refine zd ?_ ?_<;>intro h<;>try omega|fail)<;>conv=>whnf
 all_goals first
  |omega
  |exact s7 ⟨rfl,rfl,rfl,rfl,rfl,trivial⟩
theorem aF4 (s:l9) (g:List (Int × Rat)) (n B B1 B0:Nat) (h:b2I s g n B B1 B0) (hh:Int) (hout:J2 s g=.best) (hv:¬0<n7 g (p7 s g)) (hq:J2 s (F6 g)=.best) (hv2:n7 (F6 g) (p7 s (F6 g))<0):
 b9 Tryz.prog 75 [a1s s,w6 g,b7 .i64 hh] [] (b65 (b9c s g hh)) []:=by
 have le:=a9E h.p hout h.v
 have vb:=h.v g.length
 rw [List.take_length] at vb
 have ub:=h.u (F6 g).length
 rw [List.take_length] at ub
 have sg:=X8 (n7 g (p7 s g)) (by omega)
 have sp:¬sgR (n7 g (p7 s g)) > 0:=fun e=>hv (az7.1 e)
 have sg2:=X8 (n7 (F6 g) (p7 s (F6 g))) (by omega)
 have sp2:=b5N.2 hv2
 have hR:=h.p.r
 have op:=a6l g h.g5 h.p.gb
 have l2:=b6u h.q hq h.u
 (refine ac Tryz.func75 ?_;(conv=>whnf);repeat ((first|refine b0x ?_|refine zy ?_);conv=>whnf))
 repeat' (first|refine zx ?_|refine qp sg ?_|refine qp op ?_|refine qp sg2 ?_|refine qp 5 ?_|refine qp 6 ?_|refine qp 0 ?_|refine qp (0,1) ?_|refine .inr ⟨_,_,le _,?_⟩|refine .inl ⟨_,_,l2 _,?_⟩|refine bl0 [5] ?_|refine bl0 [6] ?_|refine bl0 [0] ?_|refine bl0 [0,1] ?_|refine zd ?_ ?_<;>intro h<;>try omega|fail)<;>conv=>whnf
 all_goals first
  |omega
  |exact s7 ⟨rfl,rfl,rfl,rfl,rfl,trivial⟩
theorem al9 (s:l9) (g:List (Int × Rat)) (n B B1 B0:Nat) (h:b2I s g n B B1 B0) (hh:Int) (hout:J2 s g=.best) (hv:¬0<n7 g (p7 s g)) (hq:J2 s (F6 g)=.best) (hv2:¬n7 (F6 g) (p7 s (F6 g))<0):
 b9 Tryz.prog 75 [a1s s,w6 g,b7 .i64 hh] [] (b65 (aA0 s g hh)) []:=by
 have le:=a9E h.p hout h.v
 have vb:=h.v g.length
 rw [List.take_length] at vb
 have ub:=h.u (F6 g).length
 rw [List.take_length] at ub
 have sg:=X8 (n7 g (p7 s g)) (by omega)
 have sp:¬sgR (n7 g (p7 s g)) > 0:=fun e=>hv (az7.1 e)
 have sg2:=X8 (n7 (F6 g) (p7 s (F6 g))) (by omega)
 have sp2:¬sgR (n7 (F6 g) (p7 s (F6 g)))<0:=fun e=>hv2 (b5N.1 e)
 have hR:=h.p.r
 have op:=a6l g h.g5 h.p.gb
 have l2:=b6u h.q hq h.u
 (refine ac Tryz.func75 ?_;(conv=>whnf);repeat ((first|refine b0x ?_|refine zy ?_);conv=>whnf))
 repeat' (first|refine zx ?_|refine qp sg ?_|refine qp op ?_|refine qp sg2 ?_|refine qp 5 ?_|refine qp 6 ?_|refine qp 0 ?_|refine qp (0,1) ?_|refine .inr ⟨_,_,le _,?_⟩|refine .inl ⟨_,_,l2 _,?_⟩|refine bl0 [5] ?_|refine bl0 [6] ?_|refine bl0 [0] ?_|refine bl0 [0,1] ?_|refine zd ?_ ?_<;>intro h<;>try omega|fail)<;>conv=>whnf
 all_goals first
  |omega
  |exact s7 ⟨rfl,rfl,rfl,rfl,(show VC _ (fun id=>O3 [] id=true) (C.own 4 0 s.rows.length true) _ from B7 (k:=flB (rF s.rows.length (a2z s (F9 s (F6 g))))) rfl rfl (fun h=>h) rfl (by show toC ((rF s.rows.length (a2z s (F9 s (F6 g)))).map s9)=toC (((zOf s.rows.length (a2z s (F9 s (F6 g)))).map fz).map s9);rw [a6p]) (by simp [zOf,aA0])),trivial⟩
structure bj7 where
 mv:Int
 mat:Int
def bj7.row (p:bj7):List T:=[ti p.mv,ti p.mat]
def aS9 (n:Int) (f:Fr):Bool:=decide ((f.p.dl.length:Int)<=n) && decide ((f.q.dl.length:Int)<=n)
theorem b9p (f:Fr) (n:Int):b9 Tryz.prog 113 [frS f,b7 .i64 n] [] (j0 (aS9 n f)) []:=by
 have l1:(f.p.dl.map g9).length=f.p.dl.length:=by simp
 have l2:(f.q.dl.map g9).length=f.q.dl.length:=by simp
 (refine ac Tryz.func113 ?_;(conv=>whnf);repeat ((first|refine b0x ?_|refine zy ?_);conv=>whnf))
 repeat' (first|refine zx ?_|refine zd ?_ ?_<;>intro h<;>try omega|fail)<;>conv=>whnf
 all_goals (refine i4 ?_;unfold aS9;simp;omega)
abbrev ir (n:Int):Rat:=((n:Int):Rat)
theorem b5W {n:Int} (h:-1000<=n∧n<=1000):rl (ir n)<=1:=by rw [a17];have:=B5 (x:=n) (by omega) (by omega);omega
instance:DecidableEq H4:=fun a b=>decidable_of_iff (a.terms=b.terms∧a.kind=b.kind∧a.value=b.value) ⟨fun ⟨h1,h2,h3⟩=>by cases a;cases b;simp_all,fun h=>by subst h;exact ⟨rfl,rfl,rfl⟩⟩
instance:DecidableEq l9:=fun a b=>decidable_of_iff (a.n=b.n∧a.rows=b.rows) ⟨fun ⟨h1,h2⟩=>by cases a;cases b;simp_all,fun h=>by subst h;exact ⟨rfl,rfl⟩⟩
theorem aT3:rl ((1:Int):Rat)<=200∧rl ((-1:Int):Rat)<=200∧rl ((0:Int):Rat)<=200:=by
 refine ⟨?_,?_,?_⟩
 ·have:=b5W (n:=1) (by decide);unfold ir at this;omega
 ·have:=b5W (n:=-1) (by decide);unfold ir at this;omega
 ·have:=b5W (n:=0) (by decide);unfold ir at this;omega
def aq5 (w:H4):Bool:=decide (w.terms.length<=100) && w.terms.all (fun t=>decide (rl t.2<=200)) && decide (rl w.value<=200)
theorem af7 {e:Ev} {p:Int}:∀k,(t7 e p k).all (fun t=>decide (rl t.2<=200))=true
 |0=>rfl
 |k+1=>by
  have ih:=af7 (e:=e) (p:=p) k
  unfold t7
  obtain ⟨p1,p2,p3⟩:=aT3
  split
  ·exact ih
  ·split
   ·rw [List.all_append,ih];simpa using p1
   ·split
    ·rw [List.all_append,ih];simpa using p2
    ·exact ih
theorem b0A {i:Nat} {kind:Int} {v:Rat} (h:rl v<=200):aq5 (w7 i kind v)=true:=by
 obtain ⟨p1,p2,p3⟩:=aT3
 unfold aq5 w7
 simp [h];simpa using p1
theorem b7z {t:g7} {kind:Int} {i:Nat} {x:t4} (hx:t.ev.moves[i]? =some x) (hf:J6 t.ev t.finds=0) (hm:t.ev.moves.length<=14):(M6 t kind i x).all aq5=true:=by
 obtain ⟨p1,p2,p3⟩:=aT3
 have hi:i<t.ev.moves.length:=(lbe.1 hx).1
 unfold M6
 rw [List.all_append,List.all_append,List.all_append]
 simp only [lbM]
 refine ⟨⟨⟨?_,?_⟩,?_⟩,?_⟩
 ·split
  ·rfl
  ·simp only [List.all_cons,List.all_nil,Bool.and_true]
   unfold aq5 C8
   simp only [lbM,lbI]
   have hl:=a4V (e:=t.ev) (p:=x.src) i
   refine ⟨⟨?_,?_⟩,p3⟩
   ·rw [lbq];simp;omega
   ·rw [List.all_append,af7];simpa using p2
 ·unfold P1
  split
  ·rfl
  ·rename_i lo hi' hiv
   have h:=a6V (e:=t.ev) (x:=x) (by rw [hiv];rfl)
   have e:hiR (O5 t.ev x)=hi':=by rw [hiv];rfl
   rw [e] at h
   simpa using b0A h.2
 ·rw [List.all_map,lbv]
  intro g hg
  unfold j9 at hg
  obtain ⟨f,hf',rfl⟩:=lbx.1 hg
  have:=S9 hf f (lby.1 hf').1
  have hb:=a18 (x:=f.grams) (by omega) (by omega)
  exact b0A (by rw [a17];omega)
 ·rw [lbv]
  intro w hw
  rw [List.mem_replicate] at hw
  rw [hw.2]
  exact b0A p3
theorem bk5 {t:g7} {kind:Int} (ht:n9 t=0) (hm:t.ev.moves.length<=14):b4b (n8 t kind):=by
 obtain ⟨q1,q2,q3,q4,q5⟩:=z6 ht
 have hall:(v8 t kind t.ev.moves.length).all aq5=true:=(T1 _ (lbQ _)).2 fun i x hi hx=>b7z hx q4 hm
 refine ⟨?_,fun w hw=>?_⟩
 ·have:=ad4 (t:=t) (kind:=kind) (k:=t.ev.moves.length) (by omega) q2 q3
  show (v8 t kind t.ev.moves.length).length<=_
  omega
 ·have:=lbv.1 hall w hw
  unfold aq5 at this
  simp only [lbM,lbI,lbv] at this
  exact ⟨this.1.1,this.1.2,this.2⟩
section
theorem b4u {e:Ev} (h0:J4 e=0) {m:t4} (hm:m ∈ e.moves):∃(i:Nat) (p:a0b),m.src=(i:Int)∧e.places[i]? =some p∧a1n e p=true:=by
 obtain ⟨h1,h2⟩:=Y2 (K6 h0 hm)
 obtain ⟨i,hi⟩:=Int.eq_ofNat_of_zero_le h1
 have hlt:i<e.places.length:=by omega
 refine ⟨i,e.places[i],hi,lbf hlt,?_⟩
 have:=(a3N h0).2.2.2.2.1
 rw [lbv] at this
 exact this _ (lbE hlt)
section
variable {e:Ev} (h0:J4 e=0)
include h0
end
end
theorem a4u {x:Int} (h0:-1000000000000000000<=x) (h1:x<=1000000000000000000):bl x<=3:=N9 (by simp only [pw];omega)
theorem b7G {c:P5} {reading day:Int} (h:a0k c day=true) (hr:btw reading 0 1099511627776=true):rl (a6K c reading day)<=7:=by
 unfold a0k a0I at h
 rw [a1q] at hr
 simp only [lbM,lbI,a1q] at h
 obtain ⟨⟨⟨⟨⟨⟨⟨h1,h2⟩,h3⟩,_⟩,h4⟩,h5⟩,h6⟩,h7⟩:=h
 have e1:0<=c.permille*reading:=lbZ (by omega) (by omega)
 have e2:c.permille*reading<=1000*1099511627776:=Int.mul_le_mul (by omega) (by omega) (by omega) (by omega)
 have e3:0<=c.drift*(day - c.since):=lbZ (by omega) (by omega)
 have e4:c.drift*(day - c.since)<=10000000*100000:=Int.mul_le_mul (by omega) (by omega) (by omega) (by omega)
 have b1:=a4u (x:=c.permille*reading) (by omega) (by omega)
 have b2:=a4u (x:=1000) (by decide) (by decide)
 have b3:=a4u (x:=c.grams+c.drift*(day - c.since)) (by omega) (by omega)
 have l1:=a0w (p:=c.permille*reading) (q:=1000) (by decide)
 have l2:=a2O (Rat.divInt (c.permille*reading) 1000) ((c.grams+c.drift*(day - c.since):Int):Rat)
 have l3:rl ((c.grams+c.drift*(day - c.since):Int):Rat)<=3:=by
  rw [a17];omega
 unfold a6K
 omega
theorem b6N {cs:List P5} {rs:List I8} {scale reading day:Int} {lo hi:Rat} (h:Q3 cs rs scale reading day=some (lo,hi)):rl hi<=11:=by
 unfold Q3 at h
 split at h
 ·cases h
 ·rename_i i hi
  obtain ⟨hb,c,hc,_,hcv⟩:=T6 hi
  have e:a2M cs i=c:=by unfold a2M;rw [hc];rfl
  rw [e] at h
  split at h
  ·cases h
  ·split at h
   ·rename_i hr
    injection h with h
    injection h with h1 h2
    have l1:=b7G hcv hr
    rw [a1q] at hr
    have l2:rl (reading:Rat)<=3:=by rw [a17];have:=a4u (x:=reading) (by omega) (by omega);omega
    have l3:=a2O (reading:Rat) (a6K c reading day)
    rw [← h2];omega
   ·cases h
def T3 (l:List (Int × Rat)):Prop:=∀t ∈ l,∃c:Int,t.2=((c:Int):Rat)∧bl c<=1
theorem N6 {i:Int} {c:Int} (h0:-1048575<=c) (h1:c<=1048575):T3 [(i,((c:Int):Rat))]:=by
 intro t ht
 simp at ht
 subst ht
 exact ⟨c,rfl,B5 h0 h1⟩
theorem a5i {a b:List (Int × Rat)} (ha:T3 a) (hb:T3 b):T3 (a++b):=by
 intro t ht
 rcases lbz.1 ht with h|h
 ·exact ha t h
 ·exact hb t h
theorem a2R {e:Ev} {p:Int}:∀k,T3 (t7 e p k)
 |0=>by intro t ht;cases ht
 |k+1=>by
  have ih:=a2R (e:=e) (p:=p) k
  unfold t7
  split
  ·exact ih
  ·split
   ·exact a5i ih (N6 (by decide) (by decide))
   ·split
    ·exact a5i ih (N6 (by decide) (by decide))
    ·exact ih
theorem bg5 {t:g7} {kind:Int} (ht:n9 t=0):∀w ∈ (n8 t kind).rows,b2H 11 w:=by
 classical
 obtain ⟨q1,q2,q3,q4,q5⟩:=z6 ht
 have z1:rl ((0:Int):Rat)<=11:=by have:=rl0;show rl 0<=_;omega
 have key:(v8 t kind t.ev.moves.length).all (fun w=>decide (b2H 11 w))=true:=(T1 _ (lbQ _)).2 fun i x hi hx=>by
  rw [lbv]
  intro w hw
  refine lbH ?_
  unfold M6 at hw
  rw [lbz,lbz,lbz] at hw
  rcases hw with ((hw|hw)|hw)|hw
  ·split at hw
   ·cases hw
   ·simp at hw;subst hw
    exact ⟨a5i (a2R _) (N6 (by decide) (by decide)),z1⟩
  ·unfold P1 at hw
   split at hw
   ·cases hw
   ·rename_i lo hi' hiv
    simp at hw;subst hw
    refine ⟨N6 (by decide) (by decide),?_⟩
    unfold O5 at hiv
    split at hiv
    ·cases hiv
    ·exact b6N hiv
  ·obtain ⟨g,hg,rfl⟩:=lbx.1 hw
   unfold j9 at hg
   obtain ⟨f,hf',rfl⟩:=lbx.1 hg
   have:=S9 q4 f (lby.1 hf').1
   refine ⟨N6 (by decide) (by decide),?_⟩
   show rl ((f.grams:Int):Rat)<=11
   rw [a17]
   have:=a4u (x:=f.grams) (by omega) (by omega)
   have h1:bl 1<=1:=B5 (by decide) (by decide)
   omega
  ·rw [List.mem_replicate] at hw
   rw [hw.2]
   exact ⟨N6 (by decide) (by decide),z1⟩
 intro w hw
 exact lbL (lbv.1 key w hw)
theorem bi5 {s:l9} {g:List (Int × Rat)} {B0:Nat} (hI:∀w ∈ s.rows,b2H B0 w) (hg:T3 g):∀D,V8 (g8 s).length s.n.toNat (k6 s g) D->BdD (g8 s).length s.n.toNat (2 ^ s.n.toNat*(B0+4)) D:=by
 rintro D ⟨k,hk⟩
 have inv:=a1C a1D hk
 have h0:=b3e (g:=g) hI
 refine ⟨fun i hi=>b8v h0 (by omega) inv.p inv.i hi,fun i hi j hj=>b7J h0 (by omega) inv.p inv.i hi hj,fun j hj=>?_⟩
 obtain ⟨z,hz⟩:=inv.g
 have hc:∀j,∃c:Int,L1 g j=((c:Int):Rat)∧bl c<=1:=fun j=>a3b hg g.length j
 refine b7x h0 (by omega) inv.p inv.i hz (q:=1) (b:=fun l=>-(Classical.choose (hc l))) (by decide) (by have:=B5 (x:=1) (by decide) (by decide);omega) (fun l hl=>?_) (fun l hl=>?_) hj
 ·have:=(Classical.choose_spec (hc l)).2
  show bl (-(Classical.choose (hc l)))<=_
  rw [a5C];omega
 ·have hs:=(Classical.choose_spec (hc l)).1
  show ((1:Int):Rat)*-(L1 g l)=((-(Classical.choose (hc l)):Int):Rat)
  generalize Classical.choose (hc l)=x at hs ⊢
  rw [hs]
  have e:((-x:Int):Rat)=-((x:Int):Rat):=by push_cast;rfl
  rw [e]
  have h1:((1:Int):Rat)=1:=rfl
  rw [h1];grind
theorem aa1 {l:List (Int × Rat)} {z:List Rat} {B:Nat} (h1:∀t ∈ l,rl t.2<=1) (h2:∀v ∈ z,rl v<=B):∀k,rl (n7 (l.take k) z)<=l.length*(B+4)+1:=by
 have key:∀k,k<=l.length->rl (n7 (l.take k) z)<=k*(B+4)+1:=by
  intro k
  induction k with
  |zero=>intro _;rw [List.take_zero];have:=rl0;show rl 0<=_;omega
  |succ k ih=>
   intro hk
   have ih:=ih (by omega)
   rw [List.take_succ_eq_append_getElem (show k<l.length by omega),Q6]
   have a1:=h1 l[k] (lbE _)
   have a2:rl (z.getD l[k].1.toNat 0)<=B+1:=by
    by_cases hz:l[k].1.toNat<z.length
    ·have:=h2 _ (lbm (getD_some hz));omega
    ·rw [lbl,lbd (by omega)]
     have:=rl0
     show rl 0<=_
     omega
   have a3:=b0g l[k].2 (z.getD l[k].1.toNat 0)
   have a4:=a2O (n7 (l.take k) z) (l[k].2*z.getD l[k].1.toNat 0)
   rw [lbU]
   omega
 intro k
 by_cases hk:k<=l.length
 ·have h3:=key k hk
  have h4:=lbT (B+4) hk
  omega
 ·have h3:=key l.length (lbQ _)
  rw [lbn (lbQ _)] at h3
  rw [lbn (by omega)];exact h3
theorem a29 {l:List (Int × Rat)} (h:T3 l):∀t ∈ l,rl t.2<=1:=by
 intro t ht
 obtain ⟨c,hc,hb⟩:=h t ht
 rw [hc,a17]
 have h1:bl 1<=1:=B5 (by decide) (by decide)
 omega
theorem b0f:∀n,n<=8->(n+3)*(2 ^ n*15+2)<=50000∧n*(2 ^ n*15+4)+1<=50000∧1<=2 ^ n*15:=by
 intro n hn
 have:∀n,n<9->(n+3)*(2 ^ n*15+2)<=50000∧n*(2 ^ n*15+4)+1<=50000∧1<=2 ^ n*15:=by decide
 exact this n (by omega)
theorem L5 {t:g7} {kind:Int} (ht:n9 t=0) (hm:t.ev.moves.length<=8) {g:List (Int × Rat)} (hg:k7 (-1) (t.ev.moves.length:Nat) g=true) (hw:T3 g):
 E8 (n8 t kind) g t.ev.moves.length (2 ^ t.ev.moves.length*15):=by
 obtain ⟨q1,q2,q3,q4,q5⟩:=z6 ht
 have hB:=bk5 (kind:=kind) ht (by omega)
 have hl:(n8 t kind).rows.length<=576:=by
  have h1:=T2 (t:=t) (kind:=kind) t.ev.moves.length
  have h2:t.ev.moves.length*(2+t.finds.length+t.cleans.length)<=8*72:=lbS hm (by omega)
  show (v8 t kind t.ev.moves.length).length<=_
  omega
 have hwr:=a29 hw
 refine ⟨⟨a0D (by omega) q2 q3,hg,rfl,by omega,fun w hw=>?_,fun t ht=>by have:=hwr t ht;omega,by omega⟩,hB,fun t ht=>by have:=hwr t ht;omega,?_,(b0f _ hm).2.2,(b0f _ hm).1,by omega⟩
 ·obtain ⟨a1,a2,a3⟩:=hB.t w hw
  exact ⟨by omega,fun t ht=>by have:=a2 t ht;omega⟩
 ·exact bi5 (B0:=11) (bg5 ht) hw
theorem a83 {s:l9} {g:List (Int × Rat)} {n B:Nat} (h:E8 s g n B):∀v ∈ p7 s g,rl v<=B:=by
 intro v hv
 have hb:=a8G h
 have hn:=h.nn
 have h1:=h.b1
 obtain ⟨j,hj,rfl⟩:=aD0 hv
 have hp:Y3 (g8 s).length s.n.toNat (F9 s g):=X4.p
 rw [hn] at hj hp ⊢
 rw [← aV0 hp hj]
 have key:∀k,k<=(g8 s).length->rl (ptK n (F9 s g).O (F9 s g).V (fun _=>0) k j)<=B:=by
  intro k
  induction k with
  |zero=>intro _;have:=rl0;show rl 0<=_;omega
  |succ k ih=>
   intro hk
   rw [R7]
   simp only
   split
   ·exact hb.v k (by omega)
   ·exact ih (by omega)
 exact key _ (lbQ _)
theorem as0 {l:List (Int × Rat)} (h:T3 l):T3 (F6 l):=by
 intro t ht
 obtain ⟨u,hu,rfl⟩:=lbx.1 ht
 obtain ⟨c,hc,hb⟩:=h u hu
 refine ⟨-c,?_,by rw [a5C];exact hb⟩
 show u.2*((-1:Int):Rat)=((-c:Int):Rat)
 rw [hc]
 have e:((-c:Int):Rat)=-((c:Int):Rat):=by push_cast;rfl
 have e1:((-1:Int):Rat)=-1:=rfl
 rw [e,e1];grind
theorem a3h {n:Int}:∀{l:List (Int × Rat)} {last:Int},k7 last n l=true->k7 last n (F6 l)=true
 |[],_,_=>rfl
 |a::r,last,h=>by
  unfold k7 at h
  show k7 last n ((a.1,a.2*((-1:Int):Rat))::F6 r)=true
  unfold k7
  simp only [lbM,lbI] at h ⊢
  refine ⟨⟨⟨h.1.1.1,h.1.1.2⟩,fun e=>h.1.2 ?_⟩,a3h h.2⟩
  have e1:((-1:Int):Rat)=-1:=rfl
  rw [e1] at e
  grind
theorem b0W (l:List (Int × Rat)):(F6 l).length=l.length:=a1R _ _
theorem aX6 {t:g7} {kind:Int} (ht:n9 t=0) (hm:t.ev.moves.length<=8) {g:List (Int × Rat)} (hg:k7 (-1) (t.ev.moves.length:Nat) g=true) (hw:T3 g):
 b2I (n8 t kind) g t.ev.moves.length (2 ^ t.ev.moves.length*15) (2 ^ t.ev.moves.length*15) (2 ^ t.ev.moves.length*15):=by
 have p:=L5 (kind:=kind) ht hm hg hw
 have q:=L5 (kind:=kind) ht hm (a3h hg) (as0 hw)
 have z:=L5 (kind:=kind) ht hm (g:=[]) rfl (fun t ht=>by cases ht)
 have hl:g.length<=t.ev.moves.length:=by
  have:=J1 hg
  omega
 have hp:=(b0f _ hm).2.1
 have hmul:=lbT (2 ^ t.ev.moves.length*15+4) hl
 refine ⟨p,q,z,a93 (by omega) hg,fun k=>?_,fun k=>?_⟩
 ·have:=aa1 (a29 hw) (a83 p) k
  omega
 ·have:=aa1 (a29 (as0 hw)) (a83 q) k
  rw [b0W] at this
  omega
noncomputable def a0s (s:l9) (g:List (Int × Rat)) (hh:Int):a4l:=
 open Classical in
 if 0<n7 g (p7 s g) then b99 s g hh else match J2 s (F6 g) with
 |.col c=>aE6 s g c hh
 |_=>if n7 (F6 g) (p7 s (F6 g))<0 then b9c s g hh else aA0 s g hh
theorem a7b {z:List Rat} (hz:∀v ∈ z,0<=v):∀l:List (Int × Rat),(∀ t ∈ l,0<=t.2)->0<=n7 l z:=by
 intro l hl
 have key:∀k,k<=l.length->0<=n7 (l.take k) z:=by
  intro k
  induction k with
  |zero=>intro _;rw [List.take_zero];exact lb1
  |succ k ih=>
   intro hk
   have ih:=ih (by omega)
   rw [List.take_succ_eq_append_getElem (show k<l.length by omega),Q6]
   have h1:=hl l[k] (lbE _)
   have h2:0<=z.getD l[k].1.toNat 0:=by
    by_cases hlt:l[k].1.toNat<z.length
    ·exact hz _ (lbm (getD_some hlt))
    ·rw [lbl,lbd (by omega)];exact lb1
   have h3:=lb0 h1 h2
   grind
 have:=key l.length (lbQ _)
 rwa [List.take_length] at this
theorem at7 {s:l9} {g:List (Int × Rat)} (hr:p5 s=true) (hg:k7 (-1) ((s.n.toNat:Nat):Int) g=true) (hp:∀t ∈ g,0<=t.2) (hz:J2 s []=.best):J2 s g=.best:=by
 rcases a8o s g with h|⟨r,h⟩|⟨c,h⟩
 ·exact h
 ·have h1:=(W6 hr rfl hz).1
  rw [a5s h] at h1;cases h1
 ·obtain ⟨h1,h2⟩:=a9C hr hg h
  have:=a7b h1.pos g hp
  exact absurd h2 (by grind)
theorem not_row {s:l9} {g:List (Int × Rat)} (hr:p5 s=true) (hz:J2 s []=.best):J2 s g=.best∨∃c,J2 s g=.col c:=by
 rcases a8o s g with h|⟨r,h⟩|h
 ·exact .inl h
 ·have h1:=(W6 hr rfl hz).1
  rw [a5s h] at h1;cases h1
 ·exact .inr h
theorem b3J (s:l9) (g:List (Int × Rat)) (n B B1 B0:Nat) (h:b2I s g n B B1 B0) (hh:Int) (hp:∀t ∈ g,0<=t.2) (hz:J2 s []=.best):
 b9 Tryz.prog 75 [a1s s,w6 g,b7 .i64 hh] [] (b65 (a0s s g hh)) []:=by
 have hn:=h.p.nn
 have hg:k7 (-1) ((s.n.toNat:Nat):Int) g=true:=by rw [hn];exact h.p.o.tg
 have hb:=at7 h.p.o.r hg hp hz
 unfold a0s
 by_cases h1:0<n7 g (p7 s g)
 ·rw [if_pos h1];exact ac0 s g n B B1 B0 h hh hb h1
 ·rw [if_neg h1]
  rcases not_row (g:=F6 g) h.p.o.r hz with h2|⟨c,h2⟩
  ·rw [h2];simp only
   by_cases h3:n7 (F6 g) (p7 s (F6 g))<0
   ·rw [if_pos h3];exact aF4 s g n B B1 B0 h hh hb h1 h2 h3
   ·rw [if_neg h3];exact al9 s g n B B1 B0 h hh hb h1 h2 h3
  ·rw [h2];exact an8 s g n B B1 B0 c h hh hb h1 h2 hz
theorem a8R {n:Int}:∀{l:List Int} {last:Int},(∀ (i:Nat) (x:Int),l[i]? =some x->last<x∧x<n)->(∀ (i:Nat) (x y:Int),l[i]? =some x->l[i+1]? =some y->x<y)->k7 last n (a5R l)=true
 |[],_,_,_=>rfl
 |a::r,last,h1,h2=>by
  show k7 last n ((a,((1:Int):Rat))::a5R r)=true
  unfold k7
  simp only [lbM,lbI]
  have h3:=h1 0 a rfl
  refine ⟨⟨h3,by decide⟩,a8R (fun i x hx=>?_) (fun i x y hx hy=>h2 (i+1) x y (by simpa using hx) (by simpa using hy))⟩
  have h4:=h1 (i+1) x (by simpa using hx)
  refine ⟨?_,h4.2⟩
  have key:∀(i:Nat) (x:Int),r[i]? =some x->a<x:=by
   intro i
   induction i with
   |zero=>intro x hx;exact h2 0 a x rfl (by simpa using hx)
   |succ i ih=>
    intro x hx
    obtain ⟨y,hy⟩:∃y,r[i]? =some y:=⟨_,lbf (by have:=(lbe.1 hx).1;omega)⟩
    have:=ih y hy
    have:=h2 (i+1) y x (by simpa using hy) (by simpa using hx)
    omega
  exact key i x hx
theorem a4Q (t:g7) (h:Int):k7 (-1) (t.ev.moves.length:Nat) (F5 t h)=true:=by
 obtain ⟨a1,a2⟩:=ar9 t.ev h (-1) 0 100000
 exact a8R (fun i x hx=>by have:=a1 i x hx;omega) a2
theorem aQ6 (t:g7) (h:Int):T3 (F5 t h):=by
 intro u hu
 obtain ⟨i,_,rfl⟩:=lbx.1 hu
 exact ⟨1,rfl,B5 (by decide) (by decide)⟩
theorem a7X (t:g7) (h:Int):∀u ∈ F5 t h,0<=u.2:=by
 intro u hu
 obtain ⟨i,_,rfl⟩:=lbx.1 hu
 show (0:Rat)<=((1:Int):Rat)
 decide
theorem a6J {t:g7} {h:Int}:(Q2 t.ev h (-1) 0 100000).length<=t.ev.moves.length:=by
 have:=J1 (a4Q t h)
 have e:(F5 t h).length=(Q2 t.ev h (-1) 0 100000).length:=by simp [F5,a5R]
 omega
noncomputable def a06 (t:g7) (kind:Int) (k:Nat):List a4l:=(List.range k).map fun i:Nat=>a0s (n8 t kind) (F5 t (i:Int)) (i:Int)
theorem a3R (t:g7) (kind:Int) (k:Nat):(a06 t kind k).length=k:=by simp [a06]
theorem aL0 (t:g7) (kind:Int) (k:Nat):a06 t kind (k+1)=a06 t kind k++[a0s (n8 t kind) (F5 t k) k]:=by simp [a06,List.range_succ]
abbrev bk1 (l:List a4l):T:=.sl 5 .any (l.map a4l.row)
abbrev b1q (l:List a4l):S:=.c (.t (bk1 l))
abbrev bd6 (l:List a4l):Blk:={ mode:=.live,elem:=51,size:=5,rows:=toC (l.map a4l.row),box:=false }
abbrev b98 (s:l9):Blk:={ mode:=.live,elem:=70,size:=2,rows:=[[.t (ti s.n),.t (a0d s.rows)]],box:=true }
theorem b2h (s:l9):L8 (b98 s).rows:=i8 [[ti s.n,a0d s.rows]]
theorem ac1 (t:g7) (kind:Int) (hs:t.Sized) (h:a1k t kind≠0):b9 Tryz.prog 28 [trS t,b7 .i64 kind] [] (.tup [b1q [],b7 .i64 1]) []:=by
 have sy:=a7g t kind hs
 (refine ac Tryz.func28 ?_;(conv=>whnf);repeat ((first|refine b0x ?_|refine zy ?_);conv=>whnf))
 repeat' (first|refine zx ?_|refine qp sy ?_|refine qp 5 ?_|refine bl0 [5] ?_|refine zd ?_ ?_<;>intro h<;>try omega|fail)<;>conv=>whnf
 all_goals first
  |omega
  |exact s7 ⟨rfl,rfl,trivial⟩
theorem a7W (t:g7) (kind:Int) (hs:t.Sized) (ht:n9 t=0) (k0:0<=kind) (k1:kind<8) (hm:t.ev.moves.length<=8) (r:Nat) (hz:J2 (n8 t kind) []=.row r):
 b9 Tryz.prog 28 [trS t,b7 .i64 kind] [] (.tup [b1q [],b7 .i64 15]) []:=by
 have sy:=a7g t kind hs
 have hc:¬(n9 t≠0∨kind<0∨8<=kind):=by omega
 have e1:a1k t kind=0:=if_neg hc
 have e2:aP0 t kind=n8 t kind:=if_neg hc
 rw [e1,e2] at sy
 have so:=a65 (n8 t kind) _ _ r (L5 (kind:=kind) ht hm (g:=[]) rfl (fun t ht=>by cases ht)) hz
 (refine ac Tryz.func28 ?_;(conv=>whnf);repeat ((first|refine b0x ?_|refine zy ?_);conv=>whnf))
 repeat' (first|refine zx ?_|refine qp sy ?_|refine qp so ?_|refine qp 5 ?_|refine bl0 [5] ?_|refine zd ?_ ?_<;>intro h<;>try omega|fail)<;>conv=>whnf
 all_goals first
  |omega
  |exact s7 ⟨rfl,rfl,trivial⟩
theorem an0 (t:g7) (kind:Int) (hs:t.Sized) (ht:n9 t=0) (k0:0<=kind) (k1:kind<8) (hm:t.ev.moves.length<=8) (hh:Nat) (hhs:t.ev.hhs=hh) (h100:hh<=1000) (hz:J2 (n8 t kind) []=.best):
 b9 Tryz.prog 28 [trS t,b7 .i64 kind] [] (.tup [b1q (a06 t kind hh),b7 .i64 0]) []:=by
 have sy:=a7g t kind hs
 have hc:¬(n9 t≠0∨kind<0∨8<=kind):=by omega
 have e1:a1k t kind=0:=if_neg hc
 have e2:aP0 t kind=n8 t kind:=if_neg hc
 rw [e1,e2] at sy
 have lz:=L5 (kind:=kind) ht hm (g:=[]) rfl (fun t ht=>by cases ht)
 have so:=a4o (n8 t kind) _ _ lz hz (fun v hv=>by have:=a7O lz v hv;omega)
 (refine ac Tryz.func28 ?_;(conv=>whnf);repeat ((first|refine b0x ?_|refine zy ?_);conv=>whnf))
 repeat' (first|refine zx ?_|refine qp sy ?_|refine qp so ?_|refine qp 5 ?_|refine bl0 [5] ?_|refine zd ?_ ?_<;>intro h<;>try omega|fail)<;>conv=>whnf
 all_goals try omega
 refine j7 g6 (fun k=>([J,J,S.c (C.t (T.ptr (trT t))),J,J,J,S.c (C.ptr 0 0 0),J,J,J,J,S.c (C.own 1 0 k true)]++Jn 19++[b7 .i64 hh,b7 .i64 k]++Jn 13,[b98 (n8 t kind),bd6 (a06 t kind k)])) hh (fun _=>True) [some 0,none] trivial
  ⟨rfl,rfl,⟨m6 (b2h _),⟨rfl,rfl⟩,trivial⟩,⟨k9 rfl,⟨rfl,rfl,rfl⟩,⟨rfl,rfl,rfl⟩,e8 hhs,e8 rfl,trivial⟩⟩ ?_
 intro k hk _
 by_cases hlt:k<hh
 ·have go:=b8l t hs k (by have:=a6J (t:=t) (h:=k);omega)
  have eg:b1M t k=F5 t k:=if_pos ⟨ht,by omega,by omega⟩
  rw [eg] at go
  have ve:=b3J (n8 t kind) (F5 t k) _ _ _ _ (aX6 (kind:=kind) ht hm (a4Q t k) (aQ6 t k)) k (a7X t k) hz
  have lA:k<=(bd6 (a06 t kind k)).rows.length:=by show k<=(toC _).length;simp [toC,a3R]
  conv=>whnf
  repeat' (first|refine zx ?_|refine qp go ?_|refine qp ve ?_|refine qp toC ?_|refine D5 lA (by simp [toC];omega) ?_|refine zd ?_ ?_<;>intro h<;>try omega|fail)<;>conv=>whnf
  all_goals first
   |omega
   |(refine ⟨hlt,trivial,[some 0,some 2],rfl,rfl,⟨m6 (b2h _),b8 (rows:=(a06 t kind (k+1)).map a4l.row) rfl rfl rfl ?_ rfl,trivial⟩,⟨rfl,⟨rfl,rfl,rfl⟩,⟨rfl,rfl,rfl,fun h=>h⟩,rfl,e8 (by omega),trivial⟩⟩
     rw [aL0]
     exact a0W (f:=a4l.row) (x:=a0s (n8 t kind) (F5 t k) k) (a3R t kind k).symm)
 ·have hke:k=hh:=by omega
  subst hke
  conv=>whnf
  repeat' (first|refine zx ?_|refine zd ?_ ?_<;>intro h<;>try omega|fail)<;>conv=>whnf
  all_goals first
   |omega
   |exact s7 ⟨(show VC _ (fun id=>O3 [] id=true) (C.own 1 0 k true) _ from B7 (k:=bd6 (a06 t kind k)) rfl rfl (fun h=>h) rfl rfl (by simp [a3R])),rfl,trivial⟩
structure PtB (s:l9) (z:List Rat):Prop where
 v:∀v ∈ z,rl v<=40000
 S:∀w ∈ s.rows,∀k,rl (n7 (w.terms.take k) z)<=50000
 l:z.length<=1000000
theorem b4A (s:l9) (hb:b4b s) (hr:p5 s=true) (Z:List Rat) (hp:PtB s Z):
 b9 Tryz.prog 135 [a1s s,G3 (Z.map fz)] [] (j0 (i6 s Z)) []:=by
 have m1:(s.rows.map D9).length=s.rows.length:=by simp
 have m2:((Z.map fz).map s9).length=Z.length:=by simp
 have l1:=hb.n0
 have l2:=hp.l
 have lr:=a7a s hb
 rw [hr] at lr
 have pt:=b1K (Z.map fz) (by simpa using hp.l) (fun f hf=>by
  obtain ⟨x,hx,rfl⟩:=lbx.1 hf
  have:=hp.v x hx
  have a:=V7 x
  have b:=V9 x
  exact ⟨by show bl x.num<=_;omega,by show bl x.den<=_;omega⟩)
 rw [as3] at pt
 by_cases hn:(Z.length:Int)≠s.n
 ·have e2:i6 s Z=false:=by unfold i6;rw [lbJ hn];simp
  rw [e2]
  (refine ac Tryz.func135 ?_;(conv=>whnf);repeat ((first|refine b0x ?_|refine zy ?_);conv=>whnf))
  repeat' (first|refine zx ?_|refine qp lr ?_|refine qp pt ?_|refine zd ?_ ?_<;>intro h<;>try omega|fail)<;>conv=>whnf
  all_goals first
   |omega
   |exact i4 rfl
 have hn:(Z.length:Int)=s.n:=by omega
 have e2:i6 s Z=(Z.all (fun v=>decide (0<=v)) && s.rows.all (fun w=>V4 w Z)):=by unfold i6;rw [hr,lbH hn];simp
 rw [e2]
 (refine ac Tryz.func135 ?_;(conv=>whnf);repeat ((first|refine b0x ?_|refine zy ?_);conv=>whnf))
 repeat' (first|refine zx ?_|refine qp lr ?_|refine qp pt ?_|refine zd ?_ ?_<;>intro h<;>try omega|fail)<;>conv=>whnf
 all_goals try omega
 refine j7 g6 (fun k=>([J,G3 (Z.map fz),S.c (C.t (T.ptr [ti s.n,a0d s.rows]))]++Jn 22++[G3 (Z.map fz),b7 .i64 Z.length,b7 .i64 k]++Jn 38,[])) Z.length (fun k=>(Z.take k).all (fun v=>decide (0<=v))=true) [] rfl
  ⟨rfl,rfl,trivial,⟨rfl,rfl,rfl,e8 (by simp),rfl,trivial⟩⟩ ?_
 intro k hk hI
 by_cases hlt:k<Z.length
 ·obtain ⟨x,hx⟩:∃x,Z[k]? =some x:=⟨_,lbf hlt⟩
  have bx:=hp.v x (lbm hx)
  have sg:=X8 x (by omega)
  have sn:=b18 (x:=x)
  conv=>whnf
  repeat' (first|refine zx ?_|refine qp sg ?_|refine i3 (aN8 Z hx) ?_|refine zd ?_ ?_<;>intro h<;>try omega|fail)<;>conv=>whnf
  all_goals first
   |omega
   |(have h0:¬sgR x<0:=by omega
     exact ⟨hlt,by rw [F8 hx,hI];simpa using lb2.1 (fun h=>h0 (sn.2 h)),[],rfl,rfl,trivial,⟨rfl,rfl,rfl,rfl,rfl,trivial⟩⟩)
   |(have h0:sgR x<0:=by omega
     have hF:Z.all (fun v=>decide (0<=v))=false:=K5 hx (lbJ (Rat.not_le.2 (sn.1 h0)))
     refine i4 ?_;rw [hF];rfl)
 ·have hA:Z.all (fun v=>decide (0<=v))=true:=by rw [← hI,lbn (by omega)]
  rw [hA,Bool.true_and]
  conv=>whnf
  repeat' (first|refine zx ?_|refine zd ?_ ?_<;>intro h<;>try omega|fail)<;>conv=>whnf
  all_goals try omega
  clear hI hlt hk
  refine j7 g6 (fun k=>([J,G3 (Z.map fz)]++Jn 34++[S.c (C.t (a0d s.rows)),b7 .i64 s.rows.length,b7 .i64 k]++Jn 27,[])) s.rows.length (fun k=>(s.rows.take k).all (fun w=>V4 w Z)=true) [] rfl
   ⟨rfl,rfl,trivial,⟨rfl,rfl,e8 (by simp),rfl,trivial⟩⟩ ?_
  intro k hk hI
  by_cases hlt:k<s.rows.length
  ·obtain ⟨w,hw⟩:∃w,s.rows[k]? =some w:=⟨_,lbf hlt⟩
   obtain ⟨b1,b2,b3⟩:=hb.t w (lbm hw)
   have hrw:B2 s.n w=true:=by
    unfold p5 at hr
    simp only [lbM,lbv] at hr
    exact hr.2 w (lbm hw)
   have hrt:k7 (-1) Z.length w.terms=true:=by
    unfold B2 at hrw
    simp only [lbM] at hrw
    rw [hn];exact hrw.1.1
   have hS:=hp.S w (lbm hw)
   have va:=aO7 w.terms Z (by omega) (fun t ht=>by have:=b2 t ht;omega) hp.v (fun k=>by have:=hS k;omega) (by omega) hrt
   have bv:=hS w.terms.length
   rw [lbn (lbQ _)] at bv
   have c:=a0N (n7 w.terms Z) w.value (by omega) (by omega)
   have k1:=a7q (x:=n7 w.terms Z) (y:=w.value)
   have k2:=ag5 (x:=n7 w.terms Z) (y:=w.value)
   have hro:=a3n (w:=w) (z:=Z)
   rw [← k1,←k2] at hro
   generalize Z9 (n7 w.terms Z) w.value=U at c hro
   by_cases hok:(U<0->w.kind=1)∧(U > 0->w.kind=0)
   ·have hT:=hro.2 hok
    obtain ⟨q1,q2⟩:=hok
    conv=>whnf
    repeat' (first|refine zx ?_|refine qp va ?_|refine qp c ?_|refine i3 hw ?_|refine zd ?_ ?_<;>intro h<;>try omega|fail)<;>conv=>whnf
    all_goals first
     |omega
     |exact ⟨hlt,by rw [F8 hw,hI,hT];rfl,[],rfl,rfl,trivial,⟨rfl,rfl,rfl,rfl,trivial⟩⟩
   ·have hF:V4 w Z=false:=by rw [← lbP];exact fun h=>hok (hro.1 h)
    rw [K5 hw hF]
    have hor:(U<0∧w.kind≠1)∨(U > 0∧w.kind≠0):=by omega
    clear hro hok
    conv=>whnf
    repeat' (first|refine zx ?_|refine qp va ?_|refine qp c ?_|refine i3 hw ?_|refine zd ?_ ?_<;>intro h<;>try omega|fail)<;>conv=>whnf
    all_goals first
     |omega
     |exact i4 rfl
  ·rw [lbn (by omega)] at hI
   rw [hI]
   conv=>whnf
   repeat' (first|refine zx ?_|refine zd ?_ ?_<;>intro h<;>try omega|fail)<;>conv=>whnf
   all_goals first
    |omega
    |exact i4 rfl
def yN (Y:List Rat) (i:Nat):Rat:=Y.getD i 0
def sgB (s:l9) (Y:List Rat) (i:Nat):Bool:=!((decide ((R4 s i).kind=0) && decide (yN Y i<0)) || (decide ((R4 s i).kind=1) && decide (0<yN Y i)))
def b9a (s:l9) (Y:List Rat):Bool:=decide (Y.length=s.rows.length) && (List.range s.rows.length).all (sgB s Y)
def bm6 (s:l9) (y:Nat->Rat) (l k:Nat):Rat:=j8 (fun i=>y i*L1 (R4 s i).terms l) k
def bm7 (s:l9) (y:Nat->Rat) (k:Nat):Rat:=j8 (fun i=>y i*(R4 s i).value) k
def b5a (s:l9) (g:List (Int × Rat)) (Y:List Rat):Bool:=b9a s Y && k7 (-1) s.n g && (List.range s.n.toNat).all fun v=>decide (aY3 s (yN Y) v<=L1 g v)
def ba4 (s:l9) (Y:List Rat):Bool:=b5a s [] Y && decide (0<b3P s (yN Y))
def aY6 (s:l9) (g:List (Int × Rat)):l9:=⟨s.n,s.rows++[⟨g,2,((0:Int):Rat)⟩]⟩
theorem aO1 {s:l9} {g:List (Int × Rat)} (hr:p5 s=true) (hl:s.rows.length<6000) (hg:k7 (-1) s.n g=true):p5 (aY6 s g)=true:=by
 unfold p5 at hr ⊢
 simp only [lbM,lbI] at hr ⊢
 refine ⟨⟨hr.1.1,by simp [aY6];omega⟩,?_⟩
 show (s.rows++[_]).all (B2 s.n)=true
 rw [List.all_append,hr.2]
 simp [B2,hg]
theorem a03 {s:l9} {g:List (Int × Rat)} (z:List Rat):∀l:List (Int × Rat),n7 (F6 l) z=-(n7 l z):=by
 intro l
 have key:∀k,k<=l.length->n7 ((F6 l).take k) z=-(n7 (l.take k) z):=by
  intro k
  induction k with
  |zero=>intro _;rw [List.take_zero,List.take_zero];show (0:Rat)=-0;grind
  |succ k ih=>
   intro hk
   have ih:=ih (by omega)
   have ht:l[k]? =some l[k]:=lbf (by omega)
   rw [show (F6 l).take (k+1)=_ from a9d l _ ht,Q6,List.take_succ_eq_append_getElem (show k<l.length by omega),Q6,show (a16 l ((-1:Int):Rat)).take k=(F6 l).take k from rfl,ih]
   have e1:((-1:Int):Rat)=-1:=rfl
   rw [e1];simp only;grind
 have:=key l.length (lbQ _)
 rwa [lbn (by rw [b0W];exact lbQ _),lbn (lbQ _)] at this
structure VdP (s:l9) (g:List (Int × Rat)):Prop where
 r:p5 s=true
 p:∀t ∈ g,0<=t.2
 z:J2 s []=.best
 g:k7 (-1) ((s.n.toNat:Nat):Int) g=true
theorem VdP.og {s:l9} {g:List (Int × Rat)} (h:VdP s g):k7 (-1) ((s.n.toNat:Nat):Int) (F6 g)=true:=a3h h.g
theorem VdP.pos {s:l9} {g:List (Int × Rat)} (h:VdP s g) {z:List Rat} (hz:i6 s z=true):0<=n7 g z:=a7b (a8F hz) g h.p
theorem VdP.least {s:l9} {g:List (Int × Rat)} (h:VdP s g):i6 s (p7 s g)=true∧∀z,i6 s z=true->n7 g (p7 s g)<=n7 g z:=W6 h.r h.g (at7 h.r h.g h.p h.z)
theorem VdP.has {s:l9} {g:List (Int × Rat)} (h:VdP s g):i6 s (p7 s [])=true:=(W6 h.r rfl h.z).1
theorem VdP.ray {s:l9} {g:List (Int × Rat)} (h:VdP s g) {c:Nat} (hc:J2 s (F6 g)=.col c):i6 s (a8c (p7 s []) (a9n s (F6 g) c))=true∧0<n7 g (a8c (p7 s []) (a9n s (F6 g) c)):=by
 obtain ⟨h1,h2⟩:=a9C h.r h.og hc
 refine ⟨au4 h.has h1,?_⟩
 have h3:=Z4 h.has
 have hn:=a4C h.r
 rw [a5G (n:=s.n.toNat) (by omega) h1.len h.g]
 rw [a03 (s:=s) (g:=g)] at h2
 have:=h.pos h.has
 grind
theorem a1T {s:l9} {g:List (Int × Rat)} (h:VdP s g) (hh:Int):
 ((a0s s g hh).state=2∧(∀ z,i6 s z=true->0<n7 g z))∨((a0s s g hh).state=0∧(∀ z,i6 s z=true->n7 g z=0))∨((a0s s g hh).state=1∧(∃ z,i6 s z=true∧0<n7 g z)∧∃z,i6 s z=true∧n7 g z=0):=by
 obtain ⟨h1,h2⟩:=h.least
 unfold a0s
 by_cases hp:0<n7 g (p7 s g)
 ·rw [if_pos hp]
  exact .inl ⟨rfl,fun z hz=>by have:=h2 z hz;grind⟩
 ·rw [if_neg hp]
  have hz0:n7 g (p7 s g)=0:=by have:=h.pos h1;grind
  rcases not_row (g:=F6 g) h.r h.z with ho|⟨c,ho⟩
  ·rw [ho]
   simp only
   obtain ⟨p1,p2⟩:=W6 h.r h.og ho
   by_cases hn:n7 (F6 g) (p7 s (F6 g))<0
   ·rw [if_pos hn]
    rw [a03 (s:=s) (g:=g)] at hn
    exact .inr (.inr ⟨rfl,⟨_,p1,by grind⟩,⟨_,h1,hz0⟩⟩)
   ·rw [if_neg hn]
    refine .inr (.inl ⟨rfl,fun z hz=>?_⟩)
    have:=p2 z hz
    rw [a03 (s:=s) (g:=g),a03 (s:=s) (g:=g)] at this
    rw [a03 (s:=s) (g:=g)] at hn
    have:=h.pos p1
    have:=h.pos hz
    grind
  ·rw [ho]
   simp only
   obtain ⟨r1,r2⟩:=h.ray ho
   exact .inr (.inr ⟨rfl,⟨_,r1,r2⟩,⟨_,h1,hz0⟩⟩)
theorem b8i {s:l9} {g:List (Int × Rat)} (hh:Int):(a0s s g hh).hh=hh:=by
 unfold a0s
 split
 ·rfl
 ·split
  ·rfl
  ·split<;>rfl
theorem ba3 {s:l9} {x:List Rat} {B:Nat} (hr:p5 s=true) (hI:∀w ∈ s.rows,b2H 11 w) (hB:B<=40000) (hn:s.n.toNat*(B+4)+1<=50000) (hl:x.length<=1000000) (hx:∀v ∈ x,rl v<=B):PtB s x:=by
 refine ⟨fun v hv=>lbR (hx v hv) hB,fun w hw k=>?_,hl⟩
 obtain ⟨i,hi,rfl⟩:=List.getElem_of_mem hw
 have hrt:=(a1t hr (lbf hi)).1
 have h1:=aa1 (a29 (hI _ hw).1) hx k
 have h2:=J1 hrt
 have h3:s.rows[i].terms.length<=s.n.toNat:=by omega
 have h4:=lbT (B+4) h3
 omega
structure ExP (t:g7) (kind:Int) (n:Nat):Prop where
 s:t.Sized
 e:n9 t=0
 k0:0<=kind
 k1:kind<8
 m:t.ev.moves.length<=8
 h:t.ev.hhs=(n:Nat)
 z:J2 (n8 t kind) []=.best
theorem ExP.vd {t:g7} {kind:Int} {n:Nat} (h:ExP t kind n) (hh:Int):VdP (n8 t kind) (F5 t hh):=by
 have p:=L5 (kind:=kind) h.e h.m (g:=[]) rfl (fun t ht=>by cases ht)
 exact ⟨p.o.r,a7X t hh,h.z,a4Q t hh⟩
theorem b1j {t:g7} {kind:Int} (ht:n9 t=0) (hm:t.ev.moves.length<=8) {z:List Rat} (hz:i6 (n8 t kind) z=true):J2 (n8 t kind) []=.best:=by
 have p:=L5 (kind:=kind) ht hm (g:=[]) rfl (fun t ht=>by cases ht)
 rcases a9x p.o.r with h|⟨r,h⟩
 ·exact h
 ·rw [a5s h z] at hz;cases hz
theorem be0 {t:g7} {kind:Int} (ht:n9 t=0) (hm:t.ev.moves.length<=8) (hz:∀z,i6 (n8 t kind) z=false):∃r,J2 (n8 t kind) []=.row r:=by
 have p:=L5 (kind:=kind) ht hm (g:=[]) rfl (fun t ht=>by cases ht)
 rcases a9x p.o.r with h|h
 ·have:=(W6 p.o.r rfl h).1
  rw [hz] at this;cases this
 ·exact h
def f22:List J9:=[⟨2,0,5⟩]
theorem b9Z {t:g7} {kind:Int} {n:Nat} (h:ExP t kind n) (i:Nat) {z y:List Rat} (hz:i6 (n8 t kind) z=true) (hy:i6 (n8 t kind) y=true) (h1:n7 (F5 t (i:Int)) z≠0) (h0:¬0<n7 (F5 t (i:Int)) y):(a0s (n8 t kind) (F5 t (i:Int)) (i:Int)).state=1:=by
 rcases a1T (h.vd (i:Int)) (i:Int) with ⟨_,h2⟩|⟨_,h2⟩|⟨h2,_⟩
 ·exact absurd (h2 y hy) h0
 ·exact absurd (h2 z hz) h1
 ·exact h2
theorem b8c {t:g7} {kind:Int} {n:Nat} (h:ExP t kind n) (i:Nat) (hA:∀z,i6 (n8 t kind) z=true->0<n7 (F5 t (i:Int)) z):(a0s (n8 t kind) (F5 t (i:Int)) (i:Int)).state=2:=by
 rcases a1T (h.vd (i:Int)) (i:Int) with ⟨h2,_⟩|⟨_,h2⟩|⟨_,_,y,h3,h4⟩
 ·exact h2
 ·have h3:=(h.vd (i:Int)).has
  have:=hA _ h3
  rw [h2 _ h3] at this
  exact absurd this (by decide +kernel)
 ·have:=hA _ h3
  rw [h4] at this
  exact absurd this (by decide +kernel)
theorem b66 {t:g7} {kind:Int} {n:Nat} (h:ExP t kind n) (i:Nat) (hA:∀z,i6 (n8 t kind) z=true->n7 (F5 t (i:Int)) z=0):(a0s (n8 t kind) (F5 t (i:Int)) (i:Int)).state=0:=by
 rcases a1T (h.vd (i:Int)) (i:Int) with ⟨_,h2⟩|⟨h2,_⟩|⟨_,⟨y,h3,h4⟩,_⟩
 ·have h3:=(h.vd (i:Int)).has
  have:=h2 _ h3
  rw [hA _ h3] at this
  exact absurd this (by decide +kernel)
 ·exact h2
 ·rw [hA _ h3] at h4
  exact absurd h4 (by decide +kernel)
def a77 (e:Ev) (m k:Int):Bool:=decide (e.mats<=k) && decide (e.hhs<=6) && decide (e.scs<=6) && decide (e.places.length<=12) && decide ((e.moves.length:Int)<=m) && decide (e.certs.length<=10) && decide (e.recalls.length<=4) && decide (e.purities.length<=6)
theorem b46 (e:Ev) (m k:Int):b9 Tryz.prog 73 [evS e,b7 .i64 m,b7 .i64 k] [] (j0 (a77 e m k)) []:=by
 have m1:(e.places.map a0b.row).length=e.places.length:=by simp
 have m2:(e.moves.map t4.row).length=e.moves.length:=by simp
 have m3:(e.certs.map P5.row).length=e.certs.length:=by simp
 have m4:(e.recalls.map I8.row).length=e.recalls.length:=by simp
 have m5:(e.purities.map a2U.row).length=e.purities.length:=by simp
 (refine ac Tryz.func73 ?_;(conv=>whnf);repeat ((first|refine b0x ?_|refine zy ?_);conv=>whnf))
 repeat' (first|refine zx ?_|refine zd ?_ ?_<;>intro h<;>try omega|fail)<;>conv=>whnf
 all_goals
  refine i4 ?_
  unfold a77
  simp only [m1,m2,m3,m4,m5] at *
  first
   |(symm;simp only [lbM,lbI];omega)
   |(symm;rw [← lbP];simp only [lbM,lbI];omega)
def a45 (t:g7) (m:Int):Bool:=a77 t.ev m 3 && decide (t.ev.hhs<=4) && decide (t.finds.length<=6) && decide (t.cleans.length<=6)
theorem b69 (t:g7) (m:Int):b9 Tryz.prog 26 [trS t,b7 .i64 m] [] (j0 (a45 t m)) []:=by
 have r:=b46 t.ev m 3
 have m1:(t.finds.map J9.row).length=t.finds.length:=by simp
 have m2:(t.cleans.map D6.row).length=t.cleans.length:=by simp
 unfold a45
 cases hq:a77 t.ev m 3<;>rw [hq] at r<;>
 ·(refine ac Tryz.func26 ?_;(conv=>whnf);repeat ((first|refine b0x ?_|refine zy ?_);conv=>whnf))
  repeat' (first|refine zx ?_|refine qp r ?_|refine zd ?_ ?_<;>intro h<;>try omega|fail)<;>conv=>whnf
  all_goals
   refine i4 ?_
   simp only [m1,m2] at *
   first
    |rfl
    |(symm;simp only [Bool.true_and,lbM,lbI];omega)
    |(symm;rw [← lbP];simp only [lbM,lbI];omega)
theorem ao2 {t:g7} {m:Int} (hm:m<=100) (h:a45 t m=true):t.Sized∧(t.ev.moves.length:Int)<=m∧t.ev.hhs<=4:=by
 unfold a45 a77 at h
 simp only [lbM,lbI] at h
 exact ⟨⟨⟨by omega,by omega,by omega,by omega,by omega⟩,by omega,by omega⟩,by omega,by omega⟩
def aj5 (z:List Fr) (n:Nat) (d:Int):Bool:=(z.take (n+1)).all (aS9 d) && decide (z.length<=n)
theorem b06 (z:List Fr) (n:Nat) (d:Int) (hn:n<=1000):b9 Tryz.prog 49 [G3 z,b7 .i64 n,b7 .i64 d] [] (j0 (aj5 z n d)) []:=by
 have m1:(z.map s9).length=z.length:=by simp
 (refine ac Tryz.func49 ?_;(conv=>whnf);repeat ((first|refine b0x ?_|refine zy ?_);conv=>whnf))
 repeat' (first|refine zx ?_|refine zd ?_ ?_<;>intro h<;>try omega|fail)<;>conv=>whnf
 refine j7 g6 (fun k=>([G3 z,b7 .i64 n,b7 .i64 d,J,J,J,J,b7 .i64 k]++Jn 22,[])) (n+1) (fun k=>k<=z.length∧(z.take k).all (aS9 d)=true) [] ⟨Nat.zero_le _,rfl⟩
  ⟨rfl,rfl,trivial,⟨rfl,rfl,rfl,rfl,trivial⟩⟩ ?_
 rintro k hk ⟨hle,hI⟩
 by_cases hlt:k<z.length∧k<n+1
 ·obtain ⟨f,hf⟩:∃f,z[k]? =some f:=⟨_,lbf hlt.1⟩
  have hf2:(z.take (n+1))[k]? =some f:=by rw [lbi,if_pos hlt.2];exact hf
  have r:=b9p f d
  cases hff:aS9 d f with
  |true=>
   rw [hff] at r
   conv=>whnf
   repeat' (first|refine zx ?_|refine qp r ?_|refine i3 hf ?_|refine zd ?_ ?_<;>intro h<;>try omega|fail)<;>conv=>whnf
   all_goals first
    |omega
    |exact ⟨hlt.2,⟨by omega,by rw [F8 hf,hI,hff];rfl⟩,[],rfl,rfl,trivial,⟨rfl,rfl,rfl,rfl,trivial⟩⟩
  |false=>
   rw [hff] at r
   have e1:aj5 z n d=false:=by unfold aj5;rw [K5 hf2 hff];rfl
   rw [e1]
   conv=>whnf
   repeat' (first|refine zx ?_|refine qp r ?_|refine i3 hf ?_|refine zd ?_ ?_<;>intro h<;>try omega|fail)<;>conv=>whnf
   all_goals first
    |omega
    |exact i4 rfl
 ·have hk2:z.length=k∨k=n+1:=by omega
  have hall:(z.take (n+1)).all (aS9 d)=true:=by
   rcases hk2 with h|h
   ·have e:z.take (n+1)=z.take k:=by rw [lbn (by omega),lbn (by omega)]
    rw [e];exact hI
   ·rw [← h];exact hI
  conv=>whnf
  repeat' (first|refine zx ?_|refine zd ?_ ?_<;>intro h<;>try omega|fail)<;>conv=>whnf
  all_goals first
   |omega
   |(refine i4 ?_;unfold aj5;rw [hall];simp;omega)
theorem b6I {Z:List Rat} (hZ:∀v ∈ Z,0<=v):∀l:List Int,0<n7 (a5R l) Z↔∃i ∈ l,0<Z.getD i.toNat 0:=by
 have h0:∀i,0<=Z.getD i 0:=fun i=>by
  by_cases h:i<Z.length
  ·exact hZ _ (lbm (getD_some h))
  ·rw [lbl,lbd (by omega)];exact lb1
 intro l
 have pos:∀l,0<=n7 (a5R l) Z:=fun l=>a7b hZ _ fun u hu=>by
  obtain ⟨i,_,rfl⟩:=lbx.1 hu
  show (0:Rat)<=((1:Int):Rat);decide
 have key:∀k,k<=l.length->(0<n7 (a5R (l.take k)) Z↔∃i ∈ l.take k,0<Z.getD i.toNat 0):=by
  intro k
  induction k with
  |zero=>
   intro _
   rw [List.take_zero]
   constructor
   ·intro h
    have:(0:Rat)<0:=h
    exact absurd this (by decide +kernel)
   ·rintro ⟨i,hi,_⟩;cases hi
  |succ k ih=>
   intro hk
   have ih:=ih (by omega)
   have hx:l[k]? =some l[k]:=lbf (by omega)
   rw [av0 hx,Q6,a6h hx]
   have e1:((1:Int):Rat)=1:=rfl
   have a1:=pos (l.take k)
   have a2:=h0 l[k].toNat
   simp only [e1]
   constructor
   ·intro h
    by_cases h2:0<Z.getD l[k].toNat 0
    ·exact ⟨_,List.mem_append_right _ (List.mem_singleton.2 rfl),h2⟩
    ·obtain ⟨i,hi,hp⟩:=ih.1 (by grind)
     exact ⟨i,List.mem_append_left _ hi,hp⟩
   ·rintro ⟨i,hi,hp⟩
    rcases lbz.1 hi with h|h
    ·have:=ih.2 ⟨i,h,hp⟩;grind
    ·rw [List.mem_singleton.1 h] at hp;grind
 have:=key l.length (lbQ _)
 rwa [List.take_length] at this
theorem ak1 {t:g7} {h i:Int} (hi:i ∈ Q2 t.ev h (-1) 0 100000):0<=i∧i<t.ev.moves.length:=by
 obtain ⟨a1,_⟩:=ar9 t.ev h (-1) 0 100000
 obtain ⟨k,hk,he⟩:=List.getElem_of_mem hi
 have:=a1 k i (by rw [lbf hk,he])
 omega
theorem aJ1 {z:List Fr} {n:Nat} {d:Int} (h:aj5 z n d=true):z.length<=n∧∀f ∈ z,(f.p.dl.length:Int)<=d∧(f.q.dl.length:Int)<=d:=by
 unfold aj5 at h
 simp only [lbM,lbI] at h
 obtain ⟨h1,h2⟩:=h
 rw [lbn (by omega),lbv] at h1
 refine ⟨h2,fun f hf=>?_⟩
 have:=h1 f hf
 unfold aS9 at this
 simp only [lbM,lbI] at this
 exact this
theorem ExP.poss {t:g7} {kind:Int} {n:Nat} (h:ExP t kind n) {z:List Rat} (hz:i6 (n8 t kind) z=true):a4j t kind z:=(sys_holds h.e h.k0 h.k1 (by have:=h.m;omega)).1 hz
theorem ExP.sol {t:g7} {kind:Int} {n:Nat} (h:ExP t kind n) {z:List Rat} (hz:a4j t kind z):i6 (n8 t kind) z=true:=(sys_holds h.e h.k0 h.k1 (by have:=h.m;omega)).2 hz
def cnt (p:Nat->Bool):Nat->Nat
 |0=>0
 |k+1=>cnt p k+if p k then 1 else 0
noncomputable def U6 (t:g7) (kind:Int) (i:Nat):Int:=(a0s (n8 t kind) (F5 t (i:Int)) (i:Int)).state
theorem av4 {t:Int × Rat} {r:List (Int × Rat)} (h:∀u ∈ r,u.1.toNat≠t.1.toNat) (v:Nat):∀k,k<=r.length->Q1 (t::r) (k+1) v=if v=t.1.toNat then t.2 else Q1 r k v
 |0,_=>by
  rw [U7 (l:=t::r) (k:=0) (t:=t) rfl]
  simp only
  by_cases h1:v=t.1.toNat
  ·rw [if_pos h1,if_pos h1]
  ·rw [if_neg h1,if_neg h1]
   rfl
 |k+1,hk=>by
  have hx:r[k]? =some r[k]:=lbf (by omega)
  have hne:=h _ (lbm hx)
  rw [U7 (l:=t::r) (k:=k+1) (t:=r[k]) (by simp),U7 hx]
  have ih:=av4 h v k (by omega)
  simp only
  rw [ih]
  by_cases h1:v=t.1.toNat
  ·rw [if_pos h1,if_pos h1,if_neg (by omega)]
  ·rw [if_neg h1,if_neg h1]
theorem U3 {last n:Int} {t:Int × Rat} {r:List (Int × Rat)} (h0:-1<=last) (h:k7 last n (t::r)=true) (v:Nat):L1 (t::r) v=if v=t.1.toNat then t.2 else L1 r v:=by
 refine av4 (fun u hu=>?_) v r.length (lbQ _)
 obtain ⟨j,hj,he⟩:=List.getElem_of_mem hu
 have h1:=a6L h 0 (j+1) t u (by omega) rfl (by simp [he,hj])
 have h2:=K9 h t (List.mem_cons_self ..)
 omega
theorem a0E {last n:Int} {t:Int × Rat} {r:List (Int × Rat)} (h:k7 last n (t::r)=true):k7 t.1 n r=true:=by
 unfold k7 at h
 simp only [lbM] at h
 exact h.2
theorem aK1 {last last' n:Int} (hl:last'<=last) {l:List (Int × Rat)} (h:k7 last n l=true):k7 last' n l=true:=by
 cases l with
 |nil=>rfl
 |cons t r=>
  unfold k7 at h ⊢
  simp only [lbM,lbI] at h ⊢
  exact ⟨⟨⟨by omega,h.1.1.2⟩,h.1.2⟩,h.2⟩
theorem aa9 {last n:Int} {l:List (Int × Rat)} (h0:-1<=last) (h:k7 last n l=true) {v:Nat} (hv:(v:Int)<=last):L1 l v=0:=by
 refine a8C _ fun i t hi ht e=>?_
 have:=K9 h t (lbm ht)
 omega
theorem a2k {P:Program} {g:FuncId} {n:Nat} {H H':Hp} {r:S} (h1:b9 P g [.c (.t (.sl n .nul []))] H r H') (h2:b9 P g [.c (.t (.sl n .non []))] H r H'):b9 P g [.c (.t (.sl n .any []))] H r H':=by
 refine ⟨h1.1,fun w ι M vals hl hv hH hM hf=>?_⟩
 have h0:=hv 0 _ rfl
 have key:RS w ι M (.c (.t (.sl n .nul []))) (vals.getD 0 undef)∨RS w ι M (.c (.t (.sl n .non []))) (vals.getD 0 undef):=by
  generalize vals.getD 0 undef=v at h0
  cases h0 with
  |c h=>cases h with
   |t h=>cases h with
    |@sl _ _ _ b off cap A f hrow hcap hmax hk hn hA hc hr hx=>
     cases A with
     |none=>exact .inl (.c (.t (.sl (b:=b) (off:=off) f hrow hcap hmax (fun h=>nomatch h) (fun h=>nomatch h) hA hc hr ⟨fun _=>⟨rfl,rfl⟩,fun h=>nomatch h⟩)))
     |some a=>exact .inr (.c (.t (.sl (b:=b) (off:=off) f hrow hcap hmax (fun h=>nomatch h) (fun h=>nomatch h) hA hc hr ⟨(fun h=>nomatch h),fun _=>(fun h=>nomatch h)⟩)))
 have one:∀s,RS w ι M s (vals.getD 0 undef)->∀j s',[s][j]? =some s'->RS w ι M s' (vals.getD j undef):=fun s hs j s' hj=>by
  cases j with
  |zero=>injection hj with hj;subst hj;exact hs
  |succ j=>simp at hj
 rcases key with k|k
 ·exact h1.2 w ι M vals hl (one _ k) hH hM hf
 ·exact h2.2 w ι M vals hl (one _ k) hH hM hf
theorem b3i:b9 Tryz.prog 134 [.c (.t (.sl 6 .any []))] [] (.c (.own 0 0 0 true)) [V5 []]:=by
 refine a2k ?_ ?_
 ·(refine ac Tryz.func134 ?_;(conv=>whnf);repeat (refine zy ?_;conv=>whnf))
  repeat' (first|refine zx ?_|refine zd ?_ ?_<;>intro h<;>try omega|fail)<;>conv=>whnf
  all_goals first
   |exact ⟨[none],rfl,rfl,⟨⟨rfl,rfl⟩,trivial⟩,⟨rfl,rfl,rfl⟩⟩
 ·(refine ac Tryz.func134 ?_;(conv=>whnf);repeat (refine zy ?_;conv=>whnf))
  repeat' (first|refine zx ?_|refine P6 rfl (by decide) ?_|refine zd ?_ ?_<;>intro h<;>try omega|fail)<;>conv=>whnf
  all_goals first
   |exact ⟨[some 0],rfl,rfl,⟨b8 (rows:=([]:List H4).map D9) rfl rfl rfl rfl rfl,trivial⟩,⟨rfl,rfl,rfl,fun h=>h⟩⟩
theorem b6o (l:List H4) (h1:l.length<=100000):b9 Tryz.prog 134 [.c (.t (a0d l))] [] (.c (.own 0 0 l.length true)) [V5 l]:=by
 have m1:(l.map D9).length=l.length:=by simp
 by_cases h0:l.length=0
 ·have:l=[]:=List.length_eq_zero_iff.1 h0
  subst this
  exact b3i
 have hl:0<(l.map D9).length:=by omega
 (refine ac Tryz.func134 ?_;(conv=>whnf);repeat (refine zy ?_;conv=>whnf))
 repeat' (first|refine zx ?_|refine qp (toC,lbr,List.length_nil) ?_|refine qp (toC,lbr) ?_|refine ⟨hl,?_⟩|refine zz ?_|refine P6 rfl (by simp only [toC,lbr,List.length_nil];omega) ?_|refine D5 (Nat.zero_le _) (by simp only [toC,lbr];omega) ?_|refine zd ?_ ?_<;>intro h<;>try omega|fail)<;>conv=>whnf
 all_goals first
  |omega
  |exact ⟨[some 0],rfl,rfl,⟨b8 (rows:=l.map D9) rfl rfl rfl rfl rfl,trivial⟩,⟨rfl,rfl,by simp [toC],fun h=>h⟩⟩
structure b7U where
 hh:Int
 state:Int
 w:List Fr
 wo:List Fr
 pr:List Fr
def b7U.row (v:b7U):List T:=[ti v.hh,ti v.state,R0 v.w,R0 v.wo,R0 v.pr]
def b7U.val (v:b7U):a4l:=⟨v.hh,v.state,v.w.map fv,v.wo.map fv,v.pr.map fv⟩
theorem b2p {s:l9} {g:List (Int × Rat)} {Y:List Rat} (hr:p5 s=true) (h:b5a s g Y=true):bk2 s (L1 g) (yN Y) (b3P s (yN Y)):=by
 unfold b5a b9a at h
 simp only [lbM,lbI,lbv] at h
 obtain ⟨⟨⟨h1,h2⟩,h3⟩,h4⟩:=h
 refine ⟨fun i w hw=>?_,fun l hl=>?_,rfl⟩
 ·have:=h2 i (lbB.2 (lbe.1 hw).1)
  unfold sgB at this
  rw [aW2 hw] at this
  simp only [Bool.not_eq_true',Bool.or_eq_false_iff,lbO,lbK] at this
  obtain ⟨a,b⟩:=this
  exact ⟨fun hk=>by
   rcases a with a|a
   ·exact absurd hk a
   ·exact lb2.1 a,fun hk=>by
   rcases b with b|b
   ·exact absurd hk b
   ·exact lb2.1 b⟩
 ·exact h4 l (lbB.2 hl)
theorem never_holds {s:l9} {g:List (Int × Rat)} {z:List Rat} (hr:p5 s=true) (hl:s.rows.length<6000) (hg:k7 (-1) s.n g=true) (hz:i6 s z=true) (h0:n7 g z=0):i6 (aY6 s g) z=true:=by
 obtain ⟨h1,h2,h3,h4⟩:=a1E.1 hz
 refine a1E.2 ⟨aO1 hr hl hg,h2,h3,fun w hw=>?_⟩
 rcases lbz.1 hw with h|h
 ·exact h4 w h
 ·have h:=List.mem_singleton.1 h
  subst h
  have e1:((0:Int):Rat)=0:=rfl
  simp only
  rw [h0,e1]
  exact ⟨fun _=>lb1,fun _=>lb1⟩
theorem aL5 {s:l9} {Y:List Rat} (hr:p5 s=true) (h:ba4 s Y=true) (z:List Rat):i6 s z=false:=by
 cases hz:i6 s z with
 |false=>rfl
 |true=>
  exfalso
  unfold ba4 at h
  rw [lbM,lbI] at h
  have hb:=ap7 (g:=[]) (b2p hr h.1) hz
  rw [w9 fun j hj=>by show (0:Rat)*_=0;grind] at hb
  have:=h.2
  grind
def a0T (e:Ev):Nat->List Nat
 |0=>[]
 |k+1=>match e.moves[k]? with
  |some m=>if B6 e m.src=0 then a0T e k++[k] else a0T e k
  |none=>a0T e k
def a3T (e:Ev):List Nat:=a0T e e.moves.length
def az6 (e:Ev) (i:Nat):Prop:=∃m,e.moves[i]? =some m∧B6 e m.src=0
theorem a56 {e:Ev} {i:Nat}:∀{k:Nat},i ∈ a0T e k↔i<k∧az6 e i
 |0=>by simp [a0T]
 |k+1=>by
  have ih:=a56 (e:=e) (i:=i) (k:=k)
  unfold a0T
  cases hm:e.moves[k]? with
  |none=>
   simp only
   rw [ih]
   constructor
   ·rintro ⟨h1,h2⟩;exact ⟨by omega,h2⟩
   ·rintro ⟨h1,h2⟩
    refine ⟨?_,h2⟩
    obtain ⟨m,h3,_⟩:=h2
    by_cases h:i=k
    ·subst h;rw [hm] at h3;cases h3
    ·omega
  |some m=>
   simp only
   by_cases hk:B6 e m.src=0
   ·rw [if_pos hk,lbz,ih,List.mem_singleton]
    constructor
    ·rintro (⟨h1,h2⟩|h)
     ·exact ⟨by omega,h2⟩
     ·subst h;exact ⟨by omega,m,hm,hk⟩
    ·rintro ⟨h1,h2⟩
     by_cases h:i=k
     ·exact .inr h
     ·exact .inl ⟨by omega,h2⟩
   ·rw [if_neg hk,ih]
    constructor
    ·rintro ⟨h1,h2⟩;exact ⟨by omega,h2⟩
    ·rintro ⟨h1,h2⟩
     refine ⟨?_,h2⟩
     obtain ⟨m',h3,h4⟩:=h2
     by_cases h:i=k
     ·subst h;rw [hm] at h3;injection h3 with h3;subst h3;exact absurd h4 hk
     ·omega
theorem ac5 {e:Ev} {i:Nat}:i ∈ a3T e↔az6 e i:=by
 unfold a3T
 rw [a56]
 constructor
 ·exact fun h=>h.2
 ·intro h
  have h':=h
  obtain ⟨m,h1,_⟩:=h'
  exact ⟨(lbe.1 h1).1,h⟩
theorem a8S {e:Ev}:∀k,(a0T e k).length<=k
 |0=>by simp [a0T]
 |k+1=>by
  have ih:=a8S (e:=e) k
  unfold a0T
  split
  ·split
   ·simp;omega
   ·omega
  ·omega
def a3u (l:List Nat) (i:Nat):List H4:=(l.filter fun j=>decide (j≠i)).map fun j=>w7 j 2 ((0:Int):Rat)
def aT6 (t:g7) (kind:Int) (i:Nat):l9:=⟨t.ev.moves.length,(n8 (a0U t) kind).rows++a3u (a3T t.ev) i⟩
theorem aR5 (l:List Nat) (i:Nat):(a3u l i).length<=l.length:=by unfold a3u;rw [lbr];exact lbt _ _
structure bg9 (t:g7) (kind:Int) (i:Nat) (z:List Rat):Prop where
 p:a4j (a0U t) kind z
 o:∀j,az6 t.ev j->j≠i->z.getD j 0=0
theorem aR0 {t:g7} {kind:Int} {i:Nat} (hm:t.ev.moves.length<=14) (hc:t.cleans.length<=50):p5 (aT6 t kind i)=true:=by
 have h:=a0D (t:=a0U t) (kind:=kind) hm (by simp [a0U]) hc
 unfold p5 at h ⊢
 simp only [lbM,lbI] at h ⊢
 obtain ⟨⟨⟨h1,h2⟩,h3⟩,h4⟩:=h
 have hl:=T2 (t:=a0U t) (kind:=kind) t.ev.moves.length
 have hl2:t.ev.moves.length*(2+(a0U t).finds.length+(a0U t).cleans.length)<=14*52:=lbS hm (by show 2+0+t.cleans.length<=52;omega)
 have hl3:=aR5 (a3T t.ev) i
 have hl4:=a8S (e:=t.ev) t.ev.moves.length
 refine ⟨⟨⟨h1,h2⟩,?_⟩,?_⟩
 ·show ((v8 (a0U t) kind t.ev.moves.length++a3u (a3T t.ev) i).length)<=6000
  rw [lbq]
  have:(a3T t.ev).length<=t.ev.moves.length:=hl4
  omega
 ·show ((n8 (a0U t) kind).rows++a3u (a3T t.ev) i).all (B2 (t.ev.moves.length:Nat))=true
  rw [List.all_append]
  have h5:(n8 (a0U t) kind).rows.all (B2 (t.ev.moves.length:Nat))=true:=h4
  rw [h5,Bool.true_and,lbv]
  intro w hw
  obtain ⟨j,hj,rfl⟩:=lbx.1 hw
  have hj:=(a56.1 (lby.1 hj).1).1
  unfold B2 w7
  simp only [lbM,lbI]
  exact ⟨⟨a3P (by omega) (by omega) a46,by decide⟩,by decide⟩
theorem alone_holds {t:g7} {kind:Int} {i:Nat} {z:List Rat} (ht:n9 t=0) (k0:0<=kind) (k1:kind<8) (hm:t.ev.moves.length<=14):i6 (aT6 t kind i) z=true↔bg9 t kind i z:=by
 have hc:=(z6 ht).2.2.1
 have hb:=sys_holds (t:=a0U t) (kind:=kind) (z:=z) (b3j ht) k0 k1 hm
 have hr1:=aR0 (t:=t) (kind:=kind) (i:=i) hm hc
 have hr2:=a0D (t:=a0U t) (kind:=kind) hm (by simp [a0U]) hc
 have e:i6 (aT6 t kind i) z=(i6 (n8 (a0U t) kind) z && (a3u (a3T t.ev) i).all fun w=>V4 w z):=by
  unfold i6
  rw [hr1,hr2]
  show (true && decide ((z.length:Int)=(t.ev.moves.length:Nat)) && _ && ((n8 (a0U t) kind).rows++a3u (a3T t.ev) i).all _)=_
  rw [List.all_append]
  simp only [Bool.true_and,Bool.and_assoc]
  rfl
 rw [e,lbM,hb]
 constructor
 ·rintro ⟨h1,h2⟩
  refine ⟨h1,fun j hj hji=>?_⟩
  exact a2Z.1 (lbv.1 h2 (w7 j 2 ((0:Int):Rat)) (lbx.2 ⟨j,lby.2 ⟨ac5.2 hj,lbH hji⟩,rfl⟩))
 ·rintro ⟨h1,h2⟩
  refine ⟨h1,lbv.2 fun w hw=>?_⟩
  obtain ⟨j,hj,rfl⟩:=lbx.1 hw
  have hj:=lby.1 hj
  exact a2Z.2 (h2 j (ac5.1 hj.1) (lbL hj.2))
def a4h:List (Int × Rat)->List (Int × Rat)->List (Int × Rat)
 |[],b=>b
 |t::r,[]=>t::r
 |t::r,u::q=>if t.1<u.1 then t::a4h r (u::q) else if u.1<t.1 then u::a4h (t::r) q else if t.2+u.2=0 then a4h r q else (t.1,t.2+u.2)::a4h r q
termination_by a b=>a.length+b.length
theorem a1J {last n:Int} {t:Int × Rat} {r:List (Int × Rat)} (h1:last<t.1) (h2:t.1<n) (h3:t.2≠0) (h4:k7 t.1 n r=true):k7 last n (t::r)=true:=by
 unfold k7
 simp only [lbM,lbI]
 exact ⟨⟨⟨h1,h2⟩,h3⟩,h4⟩
theorem ab8 {n:Int}:∀(k:Nat) {last:Int} {a b:List (Int × Rat)},a.length+b.length<=k->-1<=last->k7 last n a=true->k7 last n b=true->
 k7 last n (a4h a b)=true∧∀v,L1 (a4h a b) v=L1 a v+L1 b v:=by
 intro k
 induction k with
 |zero=>
  intro last a b hk h0 ha hb
  have:a=[]:=List.length_eq_zero_iff.1 (by omega)
  have:b=[]:=List.length_eq_zero_iff.1 (by omega)
  subst a b
  rw [a4h]
  exact ⟨rfl,fun v=>by show (0:Rat)=0+0;grind⟩
 |succ k ih=>
  intro last a b hk h0 ha hb
  match a,b with
  |[],b=>rw [a4h];exact ⟨hb,fun v=>by show _=(0:Rat)+_;grind⟩
  |t::r,[]=>rw [a4h];exact ⟨ha,fun v=>by show _=_+(0:Rat);grind⟩
  |t::r,u::q=>
   have mt:=K9 ha t (List.mem_cons_self ..)
   have mu:=K9 hb u (List.mem_cons_self ..)
   simp only [lbu] at hk
   rw [a4h]
   by_cases h1:t.1<u.1
   ·rw [if_pos h1]
    have hb':k7 t.1 n (u::q)=true:=a1J h1 mu.2.1 mu.2.2 (a0E hb)
    obtain ⟨i1,i2⟩:=ih (last:=t.1) (a:=r) (b:=u::q) (by simp only [lbu];omega) (by omega) (a0E ha) hb'
    have hr:=a1J mt.1 mt.2.1 mt.2.2 i1
    refine ⟨hr,fun v=>?_⟩
    rw [U3 h0 hr,U3 h0 ha,i2]
    by_cases hv:v=t.1.toNat
    ·rw [if_pos hv,if_pos hv,aa9 (v:=v) (by omega) hb' (by omega)];grind
    ·rw [if_neg hv,if_neg hv]
   ·rw [if_neg h1]
    by_cases h2:u.1<t.1
    ·rw [if_pos h2]
     have ha':k7 u.1 n (t::r)=true:=a1J h2 mt.2.1 mt.2.2 (a0E ha)
     obtain ⟨i1,i2⟩:=ih (last:=u.1) (a:=t::r) (b:=q) (by simp only [lbu];omega) (by omega) ha' (a0E hb)
     have hr:=a1J mu.1 mu.2.1 mu.2.2 i1
     refine ⟨hr,fun v=>?_⟩
     rw [U3 h0 hr,U3 h0 hb,i2]
     by_cases hv:v=u.1.toNat
     ·rw [if_pos hv,if_pos hv,aa9 (v:=v) (by omega) ha' (by omega)];grind
     ·rw [if_neg hv,if_neg hv]
    ·rw [if_neg h2]
     have he:t.1=u.1:=by omega
     have hq':=a0E hb
     rw [← he] at hq'
     obtain ⟨i1,i2⟩:=ih (last:=t.1) (a:=r) (b:=q) (by omega) (by omega) (a0E ha) hq'
     by_cases h3:t.2+u.2=0
     ·rw [if_pos h3]
      refine ⟨aK1 (by omega) i1,fun v=>?_⟩
      rw [U3 h0 ha,U3 h0 hb,←he]
      by_cases hv:v=t.1.toNat
      ·rw [if_pos hv,if_pos hv,aa9 (v:=v) (by omega) i1 (by omega)];grind
      ·rw [if_neg hv,if_neg hv,i2]
     ·rw [if_neg h3]
      have hr:=a1J (t:=(t.1,t.2+u.2)) mt.1 mt.2.1 h3 i1
      refine ⟨hr,fun v=>?_⟩
      rw [U3 h0 hr,U3 h0 ha,U3 h0 hb,←he,i2]
      by_cases hv:v=t.1.toNat
      ·simp only [if_pos hv]
      ·simp only [if_neg hv]
theorem b5O {n:Nat} {a b:List (Int × Rat)} (ha:k7 (-1) (n:Int) a=true) (hb:k7 (-1) (n:Int) b=true) (z:List Rat):n7 (a4h a b) z=n7 a z+n7 b z:=by
 obtain ⟨h1,h2⟩:=ab8 (a.length+b.length) (lbQ _) (Int.le_refl _) ha hb
 rw [R6 h1,R6 ha,R6 hb,←a1r]
 exact i9 fun j hj=>by rw [h2];grind
noncomputable def b0M (s:l9) (g:List (Int × Rat)):List Rat:=match J2 s (F6 g) with
 |.col c=>a8c (p7 s []) (a9n s (F6 g) c)
 |_=>p7 s (F6 g)
structure b22 (s:l9) (g:List (Int × Rat)):Prop where
 r:p5 s=true
 z:J2 s []=.best
 t:k7 (-1) ((s.n.toNat:Nat):Int) g=true
 p:∀z,i6 s z=true->0<=n7 g z
theorem b22.og {s:l9} {g:List (Int × Rat)} (h:b22 s g):k7 (-1) ((s.n.toNat:Nat):Int) (F6 g)=true:=a3h h.t
theorem b53 {s:l9} {g:List (Int × Rat)} (h:b22 s g):i6 s (b0M s g)=true∧((∃ z,i6 s z=true∧0<n7 g z)->0<n7 g (b0M s g)):=by
 have h0:=(W6 h.r rfl h.z).1
 unfold b0M
 rcases not_row (g:=F6 g) h.r h.z with ho|⟨c,ho⟩
 ·rw [ho]
  simp only
  obtain ⟨p1,p2⟩:=W6 h.r h.og ho
  refine ⟨p1,fun ⟨z,hz,hp⟩=>?_⟩
  have:=p2 z hz
  rw [a03 (s:=s) (g:=g),a03 (s:=s) (g:=g)] at this
  grind
 ·rw [ho]
  simp only
  obtain ⟨h1,h2⟩:=a9C h.r h.og ho
  refine ⟨au4 h0 h1,fun _=>?_⟩
  have h3:=Z4 h0
  have hn:=a4C h.r
  rw [a5G (n:=s.n.toNat) (by omega) h1.len h.t]
  rw [a03 (s:=s) (g:=g)] at h2
  have:=h.p _ h0
  grind
def a4S (gL:List (List (Int × Rat))) (out:List Bool):Nat->List (Int × Rat)
 |0=>[]
 |k+1=>if out.getD k false=true then a4S gL out k else a4h (a4S gL out k) (gL.getD k [])
noncomputable def b8S (s:l9) (gL:List (List (Int × Rat))) (out:List Bool):List Rat:=b0M s (a4S gL out gL.length)
def bl3 (g:List (Int × Rat)) (x:List Rat):Bool:=decide (0<n7 g x)
noncomputable def bk6 (s:l9) (gL:List (List (Int × Rat))) (out:List Bool):List Bool:=(List.range gL.length).map fun i=>out.getD i false || bl3 (gL.getD i []) (b8S s gL out)
noncomputable def b8p (s:l9) (gL:List (List (Int × Rat))):Nat->List Bool
 |0=>List.replicate gL.length false
 |k+1=>bk6 s gL (b8p s gL k)
noncomputable def bj9 (s:l9) (gL:List (List (Int × Rat))):Nat->List Rat
 |0=>b8S s gL (b8p s gL 0)
 |k+1=>a8c (bj9 s gL k) (b8S s gL (b8p s gL (k+1)))
structure ab1 (s:l9) (gL:List (List (Int × Rat))):Prop where
 r:p5 s=true
 z:J2 s []=.best
 g:∀g ∈ gL,k7 (-1) ((s.n.toNat:Nat):Int) g=true
 p:∀g ∈ gL,∀z,i6 s z=true->0<=n7 g z
theorem a8b {gL:List (List (Int × Rat))} {k:Nat} (h:k<gL.length):gL.getD k [] ∈ gL:=by
 rw [lbl,lbf h];exact lbE h
theorem a6r {s:l9} {gL:List (List (Int × Rat))} (h:ab1 s gL) (out:List Bool):∀k,k<=gL.length->k7 (-1) ((s.n.toNat:Nat):Int) (a4S gL out k)=true
 |0,_=>rfl
 |k+1,hk=>by
  have ih:=a6r h out k (by omega)
  unfold a4S
  split
  ·exact ih
  ·exact (ab8 _ (lbQ _) (Int.le_refl _) ih (h.g _ (a8b (by omega)))).1
theorem b19 {s:l9} {gL:List (List (Int × Rat))} (h:ab1 s gL) (out:List Bool) (z:List Rat):∀k,k<=gL.length->n7 (a4S gL out k) z=j8 (fun i=>if out.getD i false=true then 0 else n7 (gL.getD i []) z) k
 |0,_=>rfl
 |k+1,hk=>by
  have ih:=b19 h out z k (by omega)
  show _=j8 _ k+(if out.getD k false=true then 0 else n7 (gL.getD k []) z)
  unfold a4S
  by_cases ho:out.getD k false=true
  ·rw [if_pos ho,if_pos ho,ih];grind
  ·rw [if_neg ho,if_neg ho,b5O (a6r h out k (by omega)) (h.g _ (a8b (by omega))),ih]
theorem b4c {s:l9} {gL:List (List (Int × Rat))} (h:ab1 s gL) (out:List Bool):b22 s (a4S gL out gL.length):=
 ⟨h.r,h.z,a6r h out _ (lbQ _),fun z hz=>by
   rw [b19 h out z _ (lbQ _)]
   exact a36 fun i hi=>by
    split
    ·exact lb1
    ·exact h.p _ (a8b hi) z hz⟩
theorem b1u {s:l9} {gL:List (List (Int × Rat))} (h:ab1 s gL) (out:List Bool):i6 s (b8S s gL out)=true:=(b53 (b4c h out)).1
structure ag3 (s:l9) (c:Rat) (z:List Rat):Prop where
 r:p5 s=true
 l:(z.length:Int)=s.n
 p:∀v ∈ z,0<=v
 w:∀w ∈ s.rows,(w.kind≠1->c*w.value<=n7 w.terms z)∧(w.kind≠0->n7 w.terms z<=c*w.value)
theorem ah7 {s:l9} {z:List Rat} (h:i6 s z=true):ag3 s 1 z:=by
 obtain ⟨h1,h2,h3,h4⟩:=a1E.1 h
 exact ⟨h1,h2,h3,fun w hw=>by
  obtain ⟨a,b⟩:=h4 w hw
  have e:(1:Rat)*w.value=w.value:=by grind
  rw [e];exact ⟨a,b⟩⟩
theorem aZ6 {s:l9} {c d:Rat} {x y:List Rat} (hx:ag3 s c x) (hy:ag3 s d y):ag3 s (c+d) (a8c x y):=by
 have hn:=a4C hx.r
 have lx:x.length=s.n.toNat:=by have:=hx.l;omega
 have ly:y.length=s.n.toNat:=by have:=hy.l;omega
 have ll:=af2 lx ly
 refine ⟨hx.r,by omega,fun v hv=>?_,fun w hw=>?_⟩
 ·obtain ⟨j,hj,rfl⟩:=List.getElem_of_mem hv
  have e:=aw9 lx ly (j:=j) (by omega)
  rw [lbl,lbf hj] at e
  have e:(a8c x y)[j]=x.getD j 0+y.getD j 0:=e
  rw [e]
  have h1:0<=x.getD j 0:=by rw [lbl,lbf (by omega)];exact hx.p _ (lbE _)
  have h2:0<=y.getD j 0:=by rw [lbl,lbf (by omega)];exact hy.p _ (lbE _)
  grind
 ·obtain ⟨i,hi,rfl⟩:=List.getElem_of_mem hw
  have hrt:=(a1t hx.r (lbf hi)).1
  rw [a5G lx ly hrt]
  obtain ⟨a1,a2⟩:=hx.w _ (lbE hi)
  obtain ⟨b1,b2⟩:=hy.w _ (lbE hi)
  have e:(c+d)*s.rows[i].value=c*s.rows[i].value+d*s.rows[i].value:=by grind
  rw [e]
  exact ⟨fun h=>by have:=a1 h;have:=b1 h;grind,fun h=>by have:=a2 h;have:=b2 h;grind⟩
theorem sumX_holds {s:l9} {gL:List (List (Int × Rat))} (h:ab1 s gL):∀k,ag3 s ((k+1:Nat):Rat) (bj9 s gL k)
 |0=>ah7 (b1u h _)
 |k+1=>by
  have:=aZ6 (sumX_holds h k) (ah7 (b1u h (b8p s gL (k+1))))
  have e:(((k+1+1:Nat)):Rat)=((k+1:Nat):Rat)+1:=by push_cast;rfl
  rw [e];exact this
def a9i (i:Nat):Rat:=if i % 2=0 then 1 else -1
theorem b2y (i:Nat):a9i (i+1)=-(a9i i):=by
 unfold a9i
 by_cases h:i % 2=0
 ·rw [if_pos h,if_neg (by omega)]
 ·rw [if_neg h,if_pos (by omega)];grind
def B4 (i:Nat) (M:Nat->Nat->Rat):Nat->Nat->Rat:=fun r c=>M (if r<i then r else r+1) (c+1)
def J5:Nat->(Nat->Nat->Rat)->Rat
 |0,_=>1
 |n+1,M=>j8 (fun i=>a9i i*M i 0*J5 n (B4 i M)) (n+1)
theorem N7 (n:Nat) (M:Nat->Nat->Rat):J5 (n+1) M=j8 (fun i=>a9i i*M i 0*J5 n (B4 i M)) (n+1):=rfl
theorem a27:∀{n:Nat} {M N:Nat->Nat->Rat},(∀ i j,i<n->j<n->M i j=N i j)->J5 n M=J5 n N
 |0,_,_,_=>rfl
 |n+1,M,N,h=>by
  rw [N7,N7]
  refine i9 fun i hi=>?_
  rw [h i 0 hi (by omega),a27 (n:=n) (M:=B4 i M) (N:=B4 i N) fun r c hr hc=>?_]
  unfold B4
  split
  ·exact h _ _ (by omega) (by omega)
  ·exact h _ _ (by omega) (by omega)
def F7 (M:Nat->Nat->Rat) (r:Nat) (v:Nat->Rat):Nat->Nat->Rat:=fun i=>if i=r then v else M i
theorem a8i {M:Nat->Nat->Rat} {r:Nat}:F7 M r (M r)=M:=by
 funext i;unfold F7;by_cases h:i=r
 ·rw [if_pos h,h]
 ·rw [if_neg h]
theorem a9Y {M:Nat->Nat->Rat} {r:Nat} {v:Nat->Rat}:B4 r (F7 M r v)=B4 r M:=by
 funext a c;unfold B4 F7
 by_cases h:a<r
 ·rw [if_pos h,if_neg (by omega)]
 ·rw [if_neg h,if_neg (by omega)]
theorem ah0 {M:Nat->Nat->Rat} {i r:Nat} {v:Nat->Rat} (h:i<r):B4 i (F7 M r v)=F7 (B4 i M) (r - 1) (fun c=>v (c+1)):=by
 funext a c;unfold B4 F7
 by_cases ha:a<i
 ·simp only [if_pos ha]
  rw [if_neg (by omega),if_neg (by omega)]
 ·simp only [if_neg ha]
  by_cases h2:a+1=r
  ·rw [if_pos h2,if_pos (by omega)]
  ·rw [if_neg h2,if_neg (by omega)]
theorem ae2 {M:Nat->Nat->Rat} {i r:Nat} {v:Nat->Rat} (h:r<i):B4 i (F7 M r v)=F7 (B4 i M) r (fun c=>v (c+1)):=by
 funext a c;unfold B4 F7
 by_cases ha:a<i
 ·simp only [if_pos ha]
  by_cases h2:a=r
  ·rw [if_pos h2,if_pos h2]
  ·rw [if_neg h2,if_neg h2]
 ·simp only [if_neg ha]
  rw [if_neg (by omega),if_neg (by omega)]
theorem a5u:∀{n:Nat} {M:Nat->Nat->Rat} {r:Nat} {a b:Rat} {v w:Nat->Rat},r<n->J5 n (F7 M r fun c=>a*v c+b*w c)=a*J5 n (F7 M r v)+b*J5 n (F7 M r w)
 |0,_,_,_,_,_,_,h=>by omega
 |n+1,M,r,a,b,v,w,h=>by
  rw [N7,N7,N7,←G5,←G5,←a1r]
  refine i9 fun i hi=>?_
  by_cases e:i=r
  ·subst e
   rw [a9Y,a9Y,a9Y]
   unfold F7
   simp only [if_true]
   grind
  ·have e2:∀u:Nat->Rat,F7 M r u i 0=M i 0:=fun u=>by unfold F7;rw [if_neg e]
   rw [e2,e2,e2]
   by_cases h2:i<r
   ·rw [ah0 h2,ah0 h2,ah0 h2,a5u (n:=n) (M:=B4 i M) (r:=r - 1) (a:=a) (b:=b) (v:=fun c=>v (c+1)) (w:=fun c=>w (c+1)) (by omega)]
    grind
   ·rw [ae2 (by omega),ae2 (by omega),ae2 (by omega),a5u (n:=n) (M:=B4 i M) (r:=r) (a:=a) (b:=b) (v:=fun c=>v (c+1)) (w:=fun c=>w (c+1)) (by omega)]
    grind
theorem b2r {f:Nat->Rat} {r:Nat}:∀{n:Nat},r+1<n->(∀ i,i<n->i≠r->i≠r+1->f i=0)->j8 f n=f r+f (r+1)
 |0,h,_=>by omega
 |n+1,h,h0=>by
  show j8 f n+f n=_
  by_cases e:n=r+1
  ·subst e
   show j8 f r+f r+f (r+1)=_
   rw [w9 fun j hj=>h0 j (by omega) (by omega) (by omega)];grind
  ·rw [b2r (r:=r) (by omega) (fun i hi=>h0 i (by omega)),h0 n (by omega) (by omega) e];grind
theorem a5A:∀{n:Nat} {M:Nat->Nat->Rat} {r:Nat},r+1<n->M r=M (r+1)->J5 n M=0
 |0,_,_,h,_=>by omega
 |n+1,M,r,h,he=>by
  rw [N7,b2r h fun i hi h1 h2=>?_]
  ·have em:B4 r M=B4 (r+1) M:=by
    funext a c;unfold B4
    by_cases h1:a<r
    ·rw [if_pos h1,if_pos (by omega)]
    ·rw [if_neg h1]
     by_cases h2:a<r+1
     ·have:a=r:=by omega
      subst this
      rw [if_pos h2,he]
     ·rw [if_neg h2]
   rw [em,he,b2y];grind
  ·by_cases hlt:i<r
   ·rw [a5A (n:=n) (M:=B4 i M) (r:=r - 1) (by omega) (by
     funext c;unfold B4
     rw [if_neg (by omega),if_neg (by omega),show r - 1+1=r by omega,he])]
    grind
   ·rw [a5A (n:=n) (M:=B4 i M) (r:=r) (by omega) (by
     funext c;unfold B4
     rw [if_pos (by omega),if_pos (by omega),he])]
    grind
theorem a5K {M:Nat->Nat->Rat} {r s:Nat} {v w:Nat->Rat} (h:r≠s):F7 (F7 M r v) s w=F7 (F7 M s w) r v:=by
 funext i;unfold F7
 by_cases h1:i=r
 ·subst h1;rw [if_neg h,if_pos rfl,if_pos rfl]
 ·rw [if_neg h1]
  by_cases h2:i=s
  ·simp only [if_pos h2,if_neg h1]
  ·simp only [if_neg h2,if_neg h1]
theorem a0P {M:Nat->Nat->Rat} {r:Nat} {v:Nat->Rat}:F7 M r v r=v:=by unfold F7;rw [if_pos rfl]
theorem a01 {M:Nat->Nat->Rat} {r i:Nat} {v:Nat->Rat} (h:i≠r):F7 M r v i=M i:=by unfold F7;rw [if_neg h]
theorem aF6 {n:Nat} {M:Nat->Nat->Rat} {r:Nat} (v w:Nat->Rat) (h:r<n):J5 n (F7 M r fun c=>v c+w c)=J5 n (F7 M r v)+J5 n (F7 M r w):=by
 have:=a5u (M:=M) (a:=1) (b:=1) (v:=v) (w:=w) h
 have e:(fun c=>(1:Rat)*v c+1*w c)=fun c=>v c+w c:=by funext c;grind
 rw [e] at this;grind
theorem b4R {n:Nat} {M:Nat->Nat->Rat} {r:Nat} (h:r+1<n) (v w:Nat->Rat):J5 n (F7 (F7 M r v) (r+1) w)=-(J5 n (F7 (F7 M r w) (r+1) v)):=by
 have key:J5 n (F7 (F7 M r fun c=>v c+w c) (r+1) fun c=>v c+w c)=0:=a5A h (by rw [a0P,a01 (by omega),a0P])
 rw [aF6 v w h,a5K (show r≠r+1 by omega),a5K (show r≠r+1 by omega),aF6 v w (by omega),aF6 v w (by omega)] at key
 have z1:J5 n (F7 (F7 M (r+1) v) r v)=0:=a5A h (by rw [a0P,a01 (by omega),a0P])
 have z2:J5 n (F7 (F7 M (r+1) w) r w)=0:=a5A h (by rw [a0P,a01 (by omega),a0P])
 rw [z1,z2] at key
 rw [a5K (show r≠r+1 by omega),a5K (show r≠r+1 by omega)]
 grind
theorem b0D:∀(d:Nat) {n:Nat} {M:Nat->Nat->Rat} {r s:Nat},s=r+1+d->s<n->M r=M s->J5 n M=0
 |0,n,M,r,s,hs,hn,he=>by subst hs;exact a5A hn he
 |d+1,n,M,r,s,hs,hn,he=>by
  obtain ⟨q,rfl⟩:∃q,s=q+1:=⟨s - 1,by omega⟩
  have e1:M=F7 (F7 M q (M q)) (q+1) (M (q+1)):=by rw [a8i,a8i]
  rw [e1,b4R hn]
  have:=b0D d (n:=n) (M:=F7 (F7 M q (M (q+1))) (q+1) (M q)) (r:=r) (s:=q) (by omega) (by omega) (by
   rw [a01 (by omega),a01 (by omega),a01 (by omega),a0P,he])
  rw [this];grind
theorem b5k {n:Nat} {M:Nat->Nat->Rat} {r s:Nat} (hr:r<n) (hs:s<n) (h:r≠s) (he:M r=M s):J5 n M=0:=by
 by_cases hlt:r<s
 ·exact b0D (s - r - 1) (by omega) hs he
 ·exact b0D (r - s - 1) (r:=s) (s:=r) (by omega) hr he.symm
theorem b1n {n:Nat} {M:Nat->Nat->Rat} {r:Nat} (hr:r<n) (c:Nat->Rat) (v:Nat->Nat->Rat):∀k,J5 n (F7 M r fun l=>j8 (fun i=>c i*v i l) k)=j8 (fun i=>c i*J5 n (F7 M r (v i))) k
 |0=>by
  have:=a5u (M:=M) (a:=0) (b:=0) (v:=fun _=>0) (w:=fun _=>0) hr
  have e:(fun l:Nat=>j8 (fun i=>c i*v i l) 0)=fun _=>(0:Rat)*0+0*0:=by funext l;show (0:Rat)=_;grind
  rw [e,this];show _=(0:Rat);grind
 |k+1=>by
  have ih:=b1n (M:=M) hr c v k
  have:=a5u (M:=M) (a:=1) (b:=c k) (v:=fun l=>j8 (fun i=>c i*v i l) k) (w:=v k) hr
  have e:(fun l=>j8 (fun i=>c i*v i l) (k+1))=fun l=>(1:Rat)*j8 (fun i=>c i*v i l) k+c k*v k l:=by funext l;show j8 _ k+_=_;grind
  rw [e,this,ih];show _=j8 _ k+_;grind
theorem ag9 {n:Nat} {M:Nat->Nat->Rat} {c:Nat->Rat} {u:Nat->Rat} (hu:∀l,l<n->u l=j8 (fun k=>c k*M k l) n) {j:Nat} (hj:j<n):J5 n (F7 M j u)=c j*J5 n M:=by
 have e:J5 n (F7 M j u)=J5 n (F7 M j fun l=>j8 (fun k=>c k*M k l) n):=a27 fun a b ha hb=>by
  unfold F7
  split
  ·exact hu b hb
  ·rfl
 rw [e,b1n hj,E3 hj,a8i,w9 fun k hk=>?_]
 ·grind
 ·by_cases h:k=j
  ·rw [if_pos h]
  ·rw [if_neg h,b5k (r:=k) (s:=j) hk hj h (by rw [a01 h,a0P])];grind
theorem b0n (i:Nat):∃z:Int,a9i i=((z:Int):Rat)∧z.natAbs=1:=by
 unfold a9i
 split
 ·exact ⟨1,rfl,rfl⟩
 ·exact ⟨-1,rfl,rfl⟩
def a6Z:Nat->(Nat->Nat)->Nat
 |0,_=>1
 |n+1,B=>(n+1)*(B 0*a6Z n fun c=>B (c+1))
theorem aK9 {f:Nat->Rat} {B:Nat}:∀{n:Nat},(∀ i,i<n->∃z:Int,f i=((z:Int):Rat)∧z.natAbs<=B)->∃z:Int,j8 f n=((z:Int):Rat)∧z.natAbs<=n*B
 |0,_=>⟨0,rfl,by simp⟩
 |n+1,h=>by
  obtain ⟨a,ha,ha2⟩:=aK9 (n:=n) fun i hi=>h i (by omega)
  obtain ⟨b,hb,hb2⟩:=h n (by omega)
  refine ⟨a+b,by show j8 f n+f n=_;rw [ha,hb];push_cast;rfl,?_⟩
  have:=Int.natAbs_add_le a b
  rw [lbU];omega
theorem a5v:∀{n:Nat} {M:Nat->Nat->Rat} {B:Nat->Nat},(∀ i j,i<n->j<n->∃z:Int,M i j=((z:Int):Rat)∧z.natAbs<=B j)->∃z:Int,J5 n M=((z:Int):Rat)∧z.natAbs<=a6Z n B
 |0,_,_,_=>⟨1,rfl,by simp [a6Z]⟩
 |n+1,M,B,h=>by
  rw [N7]
  refine aK9 fun i hi=>?_
  obtain ⟨a,ha,ha2⟩:=b0n i
  obtain ⟨b,hb,hb2⟩:=h i 0 hi (by omega)
  obtain ⟨c,hc,hc2⟩:=a5v (n:=n) (M:=B4 i M) (B:=fun c=>B (c+1)) fun r c hr hc=>by
   unfold B4
   split
   ·exact h _ _ (by omega) (by omega)
   ·exact h _ _ (by omega) (by omega)
  refine ⟨a*b*c,by rw [ha,hb,hc];push_cast;rfl,?_⟩
  rw [Int.natAbs_mul,Int.natAbs_mul,ha2,Nat.one_mul]
  exact lbS hb2 hc2
theorem a2e {f:Nat->Rat}:∀n:Nat,j8 f (n+1)=f 0+j8 (fun l=>f (l+1)) n
 |0=>by simp only [j8];grind
 |n+1=>by
  have ih:=a2e (f:=f) n
  have e:j8 f (n+1+1)=j8 f (n+1)+f (n+1):=rfl
  rw [e,ih]
  simp only [j8];grind
def a4k:Nat->Nat->Rat:=fun i j=>if i=j then 1 else 0
theorem b1P:∀n,J5 n a4k=1
 |0=>rfl
 |n+1=>by
  rw [N7,a2e (f:=fun i=>a9i i*a4k i 0*J5 n (B4 i a4k)),w9 fun i hi=>?_]
  ·have e:B4 0 a4k=a4k:=by
    funext a c;unfold B4 a4k
    simp
   rw [e,b1P n]
   have:a9i 0=1:=rfl
   have h2:a4k 0 0=1:=rfl
   rw [this,h2];grind
  ·have:a4k (i+1) 0=0:=by unfold a4k;rw [if_neg (by omega)]
   rw [this];grind
section
def uV (n:Nat) (D0:Fd) (w:Nat):Nat->Rat
 |0=>if w<n then 0 else D0.V (w - n)
 |l+1=>if w<n then (if w=l then 1 else 0) else -(D0.A (w - n) l)
def uG (g0:Nat->Rat):Nat->Rat
 |0=>0
 |l+1=>g0 l
structure a1M (m n:Nat) (D:Fd):Prop where
 o:∀i,i<m->D.O i=n+i
 f:∀j,j<n->D.F j=j
def muF (n:Nat) (D0 D:Fd):Nat->Nat->Rat
 |0=>a4k 0
 |j+1=>uV n D0 (D.F j)
theorem b6i {m n:Nat} {D0:Fd} (h0:a1M m n D0) (l:Nat) (hl:l<n+1):Ids m n D0 (fun w=>uV n D0 w l) (a4k 0 l):=by
 intro i hi
 rw [h0.o i hi]
 rw [i9 (g:=fun j=>D0.A i j*uV n D0 j l) fun j hj=>by rw [h0.f j hj]]
 cases l with
 |zero=>
  rw [w9 fun j hj=>by show D0.A i j*(if j<n then (0:Rat) else _)=0;rw [if_pos hj];grind]
  show (if n+i<n then (0:Rat) else D0.V (n+i - n))=a4k 0 0*D0.V i - 0
  rw [if_neg (by omega),show n+i - n=i by omega]
  have:a4k 0 0=1:=rfl
  rw [this];grind
 |succ l=>
  rw [i9 (g:=fun j=>if j=l then D0.A i l else 0) fun j hj=>by
   show D0.A i j*(if j<n then (if j=l then (1:Rat) else 0) else _)=_
   rw [if_pos hj]
   by_cases h:j=l
   ·subst h;rw [if_pos rfl,if_pos rfl];grind
   ·rw [if_neg h,if_neg h];grind]
  rw [E3 (s:=l) (by omega),if_pos rfl,w9 fun j hj=>by
   by_cases h:j=l
   ·rw [if_pos h]
   ·rw [if_neg h,if_neg h]]
  show (if n+i<n then _ else -(D0.A (n+i - n) l))=a4k 0 (l+1)*D0.V i - _
  rw [if_neg (by omega),show n+i - n=i by omega]
  have:a4k 0 (l+1)=0:=rfl
  rw [this];grind
section
variable {m n:Nat} {D0 D:Fd}
def coV (D:Fd) (i:Nat):Nat->Rat
 |0=>D.V i
 |j+1=>-(D.A i j)
def coG (z:Rat) (D:Fd):Nat->Rat
 |0=>z
 |j+1=>D.G j
theorem b2n (h0:a1M m n D0) (hI:∀y c,Ids m n D0 y c↔Ids m n D y c) {i:Nat} (hi:i<m):∀l,l<n+1->uV n D0 (D.O i) l=j8 (fun k=>coV D i k*muF n D0 D k l) (n+1):=by
 intro l hl
 have h:=(hI _ _).1 (b6i h0 l hl) i hi
 rw [h,a2e]
 show _=D.V i*a4k 0 l+j8 (fun j=>-(D.A i j)*uV n D0 (D.F j) l) n
 rw [i9 (f:=fun j=>-(D.A i j)*uV n D0 (D.F j) l) (g:=fun j=>(-1:Rat)*(D.A i j*uV n D0 (D.F j) l)) fun j hj=>by grind,G5]
 grind
theorem b7r (h0:a1M m n D0) (hI:∀y c,Ids m n D0 y c↔Ids m n D y c) {g0:Nat->Rat} {z:Rat} (hg:a02 n D g0 m z):∀l,l<n+1->uG g0 l=j8 (fun k=>coG z D k*muF n D0 D k l) (n+1):=by
 intro l hl
 have h:=hg _ _ ((hI _ _).1 (b6i h0 l hl))
 rw [a2e]
 show _=z*a4k 0 l+j8 (fun j=>D.G j*uV n D0 (D.F j) l) n
 have e:j8 (fun j=>g0 j*uV n D0 j l) n=uG g0 l:=by
  cases l with
  |zero=>rw [w9 fun j hj=>by show g0 j*(if j<n then (0:Rat) else _)=0;rw [if_pos hj];grind];rfl
  |succ l=>
   rw [i9 (g:=fun j=>if j=l then g0 l else 0) fun j hj=>by
    show g0 j*(if j<n then (if j=l then (1:Rat) else 0) else _)=_
    rw [if_pos hj]
    by_cases h:j=l
    ·subst h;rw [if_pos rfl,if_pos rfl];grind
    ·rw [if_neg h,if_neg h];grind]
   rw [E3 (s:=l) (by omega),if_pos rfl,w9 fun j hj=>by
    by_cases h:j=l
    ·rw [if_pos h]
    ·rw [if_neg h,if_neg h]]
   show _=g0 l
   grind
 rw [← e,h]
 grind
theorem bh1 (h0:a1M m n D0) (hI:∀y c,Ids m n D0 y c↔Ids m n D y c) {i:Nat} (hi:i<m):J5 (n+1) (F7 (muF n D0 D) 0 (uV n D0 (D.O i)))=D.V i*J5 (n+1) (muF n D0 D):=ag9 (b2n h0 hI hi) (j:=0) (by omega)
theorem b8X (h0:a1M m n D0) (hI:∀y c,Ids m n D0 y c↔Ids m n D y c) {i j:Nat} (hi:i<m) (hj:j<n):J5 (n+1) (F7 (muF n D0 D) (j+1) (uV n D0 (D.O i)))=-(D.A i j)*J5 (n+1) (muF n D0 D):=ag9 (b2n h0 hI hi) (j:=j+1) (by omega)
theorem bg0 (h0:a1M m n D0) (hI:∀y c,Ids m n D0 y c↔Ids m n D y c) {g0:Nat->Rat} {z:Rat} (hg:a02 n D g0 m z) {j:Nat} (hj:j<n):J5 (n+1) (F7 (muF n D0 D) (j+1) (uG g0))=D.G j*J5 (n+1) (muF n D0 D):=ag9 (b7r h0 hI hg) (j:=j+1) (by omega)
theorem b33 (h0:a1M m n D0):J5 (n+1) (muF n D0 D0)=1:=by
 rw [← b1P (n+1)]
 refine a27 fun i j hi hj=>?_
 cases i with
 |zero=>rfl
 |succ i=>
  show uV n D0 (D0.F i) j=_
  rw [h0.f i (by omega)]
  cases j with
  |zero=>show (if i<n then (0:Rat) else _)=_;rw [if_pos (by omega)];rfl
  |succ j=>
   show (if i<n then (if i=j then (1:Rat) else 0) else _)=_
   rw [if_pos (by omega)]
   unfold a4k
   by_cases h:i=j
   ·rw [if_pos h,if_pos (by omega)]
   ·rw [if_neg h,if_neg (by omega)]
theorem b49 (h0:a1M m n D0) (hI:∀y c,Ids m n D0 y c↔Ids m n D y c) {r s:Nat} (hr:r<m) (hs:s<n):J5 (n+1) (muF n D0 (D.exch r s))=-(D.A r s)*J5 (n+1) (muF n D0 D):=by
 rw [← b8X h0 hI hr hs]
 refine a27 fun i j hi hj=>?_
 cases i with
 |zero=>rfl
 |succ i=>
  show uV n D0 ((D.exch r s).F i) j=F7 (muF n D0 D) (s+1) (uV n D0 (D.O r)) (i+1) j
  rw [a1V]
  by_cases h:i=s
  ·subst h;rw [if_pos rfl,a0P]
  ·rw [if_neg h,a01 (by omega)];rfl
end
theorem b5E {m n:Nat} {D0:Fd} {g0:Nat->Rat} (h0:a1M m n D0) (hv:a6q m n D0 g0 D0):∀{k:Nat} {D:Fd},itS m n k D0=some D->J5 (n+1) (muF n D0 D)≠0
 |0,D,h=>by injection h with h;subst h;rw [b33 h0];decide
 |k+1,D,h=>by
  rw [a0e] at h
  cases hk:itS m n k D0 with
  |none=>rw [hk] at h;cases h
  |some D1=>
   rw [hk] at h
   have h:I4 m n D1=some D:=h
   obtain ⟨r,s,hs,rfl⟩:=a6B h
   obtain ⟨h1,h2,h3⟩:=a5B hs
   have hp:=a7h h3
   rw [b49 h0 (a1C hv hk).i h1 h2]
   intro e
   rcases Rat.mul_eq_zero.1 e with e|e
   ·exact hp (by grind)
   ·exact b5E h0 hv hk e
def b7B (K:Rat) (M:Nat->Nat->Rat):Nat->Nat->Rat:=fun i j=>if j=0 then K*M i 0 else M i j
theorem b8K (n:Nat) (K:Rat) (M:Nat->Nat->Rat):J5 (n+1) (b7B K M)=K*J5 (n+1) M:=by
 rw [N7,N7,←G5]
 refine i9 fun i hi=>?_
 have e:B4 i (b7B K M)=B4 i M:=by
  funext a c;unfold B4 b7B;rw [if_neg (by omega)]
 rw [e]
 show a9i i*(if (0:Nat)=0 then K*M i 0 else _)*_=_
 rw [if_pos rfl];grind
theorem ay7 {n:Nat} {M:Nat->Nat->Rat} {r:Nat} (hr:r<n) (h:∀c,c<n->M r c=0):J5 n M=0:=by
 have e:J5 n M=J5 n (F7 M r fun c=>(0:Rat)*0+0*0):=a27 fun i j hi hj=>by
  unfold F7
  by_cases hir:i=r
  ·subst hir;rw [if_pos rfl,h j hj];grind
  ·rw [if_neg hir]
 rw [e,a5u (v:=fun _=>0) (w:=fun _=>0) hr];grind
theorem b15 {n:Nat} {M:Nat->Nat->Rat} (h1:M 0 0=1) (h0:∀c,c<n->M 0 (c+1)=0):J5 (n+1) M=J5 n (B4 0 M):=by
 rw [N7,a2e (f:=fun i=>a9i i*M i 0*J5 n (B4 i M)),w9 fun i hi=>?_]
 ·have:a9i 0=1:=rfl
  rw [this,h1];grind
 ·rw [ay7 (n:=n) (M:=B4 (i+1) M) (r:=0) (by omega) fun c hc=>by
   unfold B4;rw [if_pos (by omega)];exact h0 c hc]
  grind
structure b0F (m n K BV BA BG:Nat) (D0:Fd) (g0:Nat->Rat):Prop where
 k:0<K
 v:∀i,i<m->∃z:Int,(K:Rat)*D0.V i=((z:Int):Rat)∧z.natAbs<=BV
 a:∀i j,i<m->j<n->∃z:Int,D0.A i j=((z:Int):Rat)∧z.natAbs<=BA
 g:∀j,j<n->∃z:Int,g0 j=((z:Int):Rat)∧z.natAbs<=BG
 a1:1<=BA
 ag:BA<=BG
theorem aB3 {m n K BV BA BG:Nat} {D0:Fd} {g0:Nat->Rat} (h:b0F m n K BV BA BG D0 g0) {w l:Nat} (hw:w<n+m) (hl:l<n):∃z:Int,uV n D0 w (l+1)=((z:Int):Rat)∧z.natAbs<=BA:=by
 have:=h.a1
 show ∃z:Int,(if w<n then (if w=l then (1:Rat) else 0) else -(D0.A (w - n) l))=_∧_
 by_cases h1:w<n
 ·rw [if_pos h1]
  by_cases h2:w=l
  ·rw [if_pos h2];exact ⟨1,rfl,by simpa using this⟩
  ·rw [if_neg h2];exact ⟨0,rfl,by simp⟩
 ·rw [if_neg h1]
  obtain ⟨z,hz,hb⟩:=h.a (w - n) l (by omega) hl
  exact ⟨-z,by rw [hz];push_cast;rfl,by rw [Int.natAbs_neg];exact hb⟩
theorem b8q {m n K BV BA BG:Nat} {D0:Fd} {g0:Nat->Rat} (h:b0F m n K BV BA BG D0 g0) {w:Nat} (hw:w<n+m):∃z:Int,(K:Rat)*uV n D0 w 0=((z:Int):Rat)∧z.natAbs<=BV:=by
 show ∃z:Int,(K:Rat)*(if w<n then (0:Rat) else D0.V (w - n))=_∧_
 by_cases h1:w<n
 ·rw [if_pos h1];exact ⟨0,by show _=(0:Rat);grind,by simp⟩
 ·rw [if_neg h1];exact h.v _ (by omega)
theorem b7s {m n K BV BA BG:Nat} {D0 D:Fd} {g0:Nat->Rat} (h:b0F m n K BV BA BG D0 g0) (hf:∀j,j<n->D.F j<n+m):∃z:Int,J5 (n+1) (muF n D0 D)=((z:Int):Rat)∧z.natAbs<=a6Z n fun _=>BA:=by
 rw [b15 (M:=muF n D0 D) rfl fun c hc=>rfl]
 refine a5v fun i j hi hj=>?_
 unfold B4
 rw [if_neg (by omega)]
 exact aB3 h (hf i hi) hj
theorem aJ9 {m n K BV BA BG:Nat} {D0 D:Fd} {g0:Nat->Rat} (h:b0F m n K BV BA BG D0 g0) (hf:∀j,j<n->D.F j<n+m) {B:Nat} {u:Nat->Rat} (hB:BA<=B) (hu:∀l,l<n->∃z:Int,u (l+1)=((z:Int):Rat)∧z.natAbs<=B) (j:Nat):∃z:Int,J5 (n+1) (F7 (muF n D0 D) (j+1) u)=((z:Int):Rat)∧z.natAbs<=a6Z n fun _=>B:=by
 rw [b15 (M:=F7 (muF n D0 D) (j+1) u) (by rw [a01 (by omega)];rfl) fun c hc=>by rw [a01 (by omega)];rfl]
 refine a5v fun i k hi hk=>?_
 have em:B4 0 (F7 (muF n D0 D) (j+1) u) i k=F7 (muF n D0 D) (j+1) u (i+1) (k+1):=by unfold B4;rw [if_neg (by omega)]
 rw [em]
 by_cases e:i+1=j+1
 ·rw [e,a0P];exact hu k hk
 ·rw [a01 e]
  obtain ⟨z,hz,hb⟩:=aB3 h (hf i hi) hk
  exact ⟨z,hz,by omega⟩
theorem b4o {m n K BV BA BG:Nat} {D0 D:Fd} {g0:Nat->Rat} (h:b0F m n K BV BA BG D0 g0) (hf:∀j,j<n->D.F j<n+m) {w:Nat} (hw:w<n+m):∃z:Int,(K:Rat)*J5 (n+1) (F7 (muF n D0 D) 0 (uV n D0 w))=((z:Int):Rat)∧z.natAbs<=a6Z (n+1) fun c=>if c=0 then BV else BA:=by
 rw [← b8K]
 refine a5v fun i j hi hj=>?_
 have key:∀w,w<n+m->∃z:Int,(if j=0 then (K:Rat)*uV n D0 w 0 else uV n D0 w j)=((z:Int):Rat)∧z.natAbs<=if j=0 then BV else BA:=fun w hw=>by
  by_cases h1:j=0
  ·rw [if_pos h1,if_pos h1];exact b8q h hw
  ·rw [if_neg h1,if_neg h1]
   obtain ⟨l,rfl⟩:∃l,j=l+1:=⟨j - 1,by omega⟩
   exact aB3 h hw (by omega)
 unfold b7B F7
 cases i with
 |zero=>simp only [if_true];exact key w hw
 |succ i=>
  simp only [if_neg (show i+1≠0 by omega)]
  exact key (D.F i) (hf i (by omega))
theorem a9N {x:Rat} {p q:Int} (hq:q≠0) (h:((q:Int):Rat)*x=((p:Int):Rat)):rl x<=max (bl p) (bl q):=by
 have hqn:((q:Int):Rat)≠0:=by intro e;exact hq (by exact_mod_cast e)
 have e:x=Rat.divInt p q:=by
  rw [Rat.divInt_eq_div,←h]
  rw [Rat.mul_comm,Rat.div_def,Rat.mul_assoc,Rat.mul_inv_cancel _ hqn];grind
 rw [e];exact a0w hq
theorem a68 {z:Int} {X k:Nat} (h:z.natAbs<=X) (hX:(X:Int)<pw k):bl z<=k:=N9 (by omega)
theorem b0v {m n K BV BA BG b:Nat} {D0 D:Fd} {g0:Nat->Rat} (h0:a1M m n D0) (h:b0F m n K BV BA BG D0 g0) (hv:a6q m n D0 g0 D0) (hD:V8 m n D0 D)
 (b1:((a6Z (n+1) fun c=>if c=0 then BV else BA:Nat):Int)<pw b) (b2:((a6Z n fun _=>BG:Nat):Int)<pw b) (b3:((K*a6Z n fun _=>BA:Nat):Int)<pw b) (b4:((a6Z n fun _=>BA:Nat):Int)<pw b):
 (∀ i,i<m->rl (D.V i)<=b)∧(∀ i j,i<m->j<n->rl (D.A i j)<=b)∧∀j,j<n->rl (D.G j)<=b:=by
 obtain ⟨k,hk⟩:=hD
 have hi:=a1C hv hk
 have hn:=b5E h0 hv hk
 obtain ⟨d,hd,hdb⟩:=b7s h (D:=D) hi.p.fb
 rw [hd] at hn
 have hd0:d≠0:=fun e=>hn (by rw [e];rfl)
 refine ⟨fun i him=>?_,fun i j him hj=>?_,fun j hj=>?_⟩
 ·obtain ⟨p,hp,hpb⟩:=b4o h (D:=D) hi.p.fb (hi.p.ob i him)
  rw [bh1 h0 hi.i him,hd] at hp
  have hK:=h.k
  have e:=a9N (x:=D.V i) (p:=p) (q:=(K:Int)*d) (by
   intro e
   rcases Int.mul_eq_zero.1 e with e|e
   ·omega
   ·exact hd0 e) (by rw [← hp];push_cast;grind)
  have q1:=a68 hpb b1
  have q2:bl ((K:Int)*d)<=b:=a68 (X:=K*a6Z n fun _=>BA) (by rw [Int.natAbs_mul];exact lbS (by simp) hdb) b3
  omega
 ·obtain ⟨p,hp,hpb⟩:=aJ9 h (D:=D) hi.p.fb (lbQ _) (u:=uV n D0 (D.O i)) (fun l hl=>aB3 h (hi.p.ob i him) hl) j
  rw [b8X h0 hi.i him hj,hd] at hp
  have e:=a9N (x:=-(D.A i j)) (p:=p) (q:=d) hd0 (by rw [← hp];grind)
  rw [a2T] at e
  have q1:=a68 hpb b4
  have q2:=a68 hdb b4
  omega
 ·obtain ⟨z,hz⟩:=hi.g
  obtain ⟨p,hp,hpb⟩:=aJ9 h (D:=D) hi.p.fb h.ag (u:=uG g0) (fun l hl=>h.g l hl) j
  rw [bg0 h0 hi.i hz hj,hd] at hp
  have e:=a9N (x:=D.G j) (p:=p) (q:=d) hd0 (by rw [← hp];grind)
  have q1:=a68 hpb b2
  have q2:=a68 hdb b4
  omega
end
def ai8 (v:Rat):Prop:=∃z:Int,((1000:Nat):Rat)*v=((z:Int):Rat)∧z.natAbs<=2305843009213693952
def b8P (w:H4):Prop:=T3 w.terms∧ai8 w.value
theorem b3E {x:Int} (h0:-1000000000000000<=x) (h1:x<=1000000000000000):ai8 ((x:Int):Rat):=⟨1000*x,by push_cast;rfl,by omega⟩
theorem a6H:ai8 0:=⟨0,by show _=(0:Rat);grind,by decide⟩
theorem b2M {x:Rat} (h:ai8 x):ai8 (-x):=by
 obtain ⟨z,h1,h2⟩:=h
 exact ⟨-z,by push_cast;rw [← h1];grind,by rw [Int.natAbs_neg];exact h2⟩
theorem b5M {cs:List P5} {rs:List I8} {scale reading day:Int} {lo hi:Rat} (h:Q3 cs rs scale reading day=some (lo,hi)):ai8 hi:=by
 unfold Q3 at h
 split at h
 ·cases h
 ·rename_i i hi
  obtain ⟨hb,c,hc,_,hcv⟩:=T6 hi
  have e:a2M cs i=c:=by unfold a2M;rw [hc];rfl
  rw [e] at h
  split at h
  ·cases h
  ·split at h
   ·rename_i hr
    injection h with h
    injection h with h1 h2
    rw [← h2]
    unfold a0k a0I at hcv
    rw [a1q] at hr
    simp only [lbM,lbI,a1q] at hcv
    obtain ⟨⟨⟨⟨⟨⟨⟨h1,h2⟩,h3⟩,_⟩,h4⟩,h5⟩,h6⟩,h7⟩:=hcv
    have e1:0<=c.permille*reading:=lbZ (by omega) (by omega)
    have e2:c.permille*reading<=1000*1099511627776:=Int.mul_le_mul (by omega) (by omega) (by omega) (by omega)
    have e3:0<=c.drift*(day - c.since):=lbZ (by omega) (by omega)
    have e4:c.drift*(day - c.since)<=10000000*100000:=Int.mul_le_mul (by omega) (by omega) (by omega) (by omega)
    refine ⟨1000*reading+(c.permille*reading+1000*(c.grams+c.drift*(day - c.since))),?_,by omega⟩
    unfold a6K
    have e5:((1000:Nat):Rat)*Rat.divInt (c.permille*reading) 1000=((c.permille*reading:Int):Rat):=by
     rw [Rat.divInt_eq_div]
     have:((1000:Nat):Rat)=((1000:Int):Rat):=rfl
     rw [this]
     rw [Rat.div_def,←Rat.mul_assoc,Rat.mul_comm (((1000:Int):Rat)),Rat.mul_assoc,Rat.mul_inv_cancel _ (by decide)];grind
    have e6:((1000:Nat):Rat)*((reading:Rat)+(Rat.divInt (c.permille*reading) 1000+((c.grams+c.drift*(day - c.since):Int):Rat)))=((1000:Nat):Rat)*(reading:Rat)+(((1000:Nat):Rat)*Rat.divInt (c.permille*reading) 1000+((1000:Nat):Rat)*((c.grams+c.drift*(day - c.since):Int):Rat)):=by grind
    rw [e6,e5];push_cast;rfl
   ·cases h
theorem bf8 {t:g7} {kind:Int} (ht:n9 t=0):∀w ∈ (n8 t kind).rows,b8P w:=by
 classical
 obtain ⟨q1,q2,q3,q4,q5⟩:=z6 ht
 have key:(v8 t kind t.ev.moves.length).all (fun w=>decide (b8P w))=true:=(T1 _ (lbQ _)).2 fun i x hi hx=>by
  rw [lbv]
  intro w hw
  refine lbH ?_
  unfold M6 at hw
  rw [lbz,lbz,lbz] at hw
  rcases hw with ((hw|hw)|hw)|hw
  ·split at hw
   ·cases hw
   ·simp at hw;subst hw
    exact ⟨a5i (a2R _) (N6 (by decide) (by decide)),a6H⟩
  ·unfold P1 at hw
   split at hw
   ·cases hw
   ·rename_i lo hi' hiv
    simp at hw;subst hw
    refine ⟨N6 (by decide) (by decide),?_⟩
    unfold O5 at hiv
    split at hiv
    ·cases hiv
    ·exact b5M hiv
  ·obtain ⟨g,hg,rfl⟩:=lbx.1 hw
   unfold j9 at hg
   obtain ⟨f,hf',rfl⟩:=lbx.1 hg
   have:=S9 q4 f (lby.1 hf').1
   exact ⟨N6 (by decide) (by decide),b3E (by omega) (by omega)⟩
  ·rw [List.mem_replicate] at hw
   rw [hw.2]
   exact ⟨N6 (by decide) (by decide),a6H⟩
 intro w hw
 exact lbL (lbv.1 key w hw)
theorem ah9 {c:Int} (h:bl c<=1):c.natAbs<=1048575:=by
 have h1:=P9 c.natAbs
 have h2:(dg c.natAbs).length<=1:=h
 have h3:pw (dg c.natAbs).length<=pw 1:=by
  have:(dg c.natAbs).length=0∨(dg c.natAbs).length=1:=by omega
  rcases this with h|h<;>rw [h]
  ·decide
  ·exact Int.le_refl _
 have h4:pw 1=1048576:=by decide
 omega
theorem b8T {b:Bool} {x:Rat} {c:Int} (h:x=((c:Int):Rat)):∃c':Int,Z5 b x=((c':Int):Rat)∧c'.natAbs=c.natAbs:=by
 cases b with
 |false=>exact ⟨c,h,rfl⟩
 |true=>exact ⟨-c,by show -x=_;rw [h];push_cast;rfl,Int.natAbs_neg c⟩
theorem b8D {s:l9} {g:List (Int × Rat)}:a1M (g8 s).length s.n.toNat (k6 s g):=⟨fun _ _=>rfl,fun _ _=>rfl⟩
theorem b3a {s:l9} {g:List (Int × Rat)} (hI:∀w ∈ s.rows,b8P w) (hg:T3 g):b0F (g8 s).length s.n.toNat 1000 2305843009213693952 1048575 1048575 (k6 s g) (fun j=>-(L1 g j)) where
 k:=by decide
 v:=fun i hi=>by
  obtain ⟨f,hf⟩:∃f,(g8 s)[i]? =some f:=⟨_,lbf hi⟩
  obtain ⟨x,hx,_⟩:=a0y.1 (lbm hf)
  have h2:=(hI x (lbm hx)).2
  have hfd:(g8 s).getD i (0,false)=f:=by rw [lbl,hf];rfl
  have eV:(k6 s g).V i=Z5 f.2 x.value:=by show a4f s ((g8 s).getD i (0,false))=_;rw [hfd];unfold a4f;rw [hx]
  rw [eV]
  cases f.2 with
  |false=>exact h2
  |true=>exact b2M h2
 a:=fun i j hi hj=>by
  obtain ⟨f,hf⟩:∃f,(g8 s)[i]? =some f:=⟨_,lbf hi⟩
  obtain ⟨x,hx,_⟩:=a0y.1 (lbm hf)
  have h1:=(hI x (lbm hx)).1
  have hfd:(g8 s).getD i (0,false)=f:=by rw [lbl,hf];rfl
  have eA:(k6 s g).A i j=Z5 f.2 (L1 x.terms j):=by show a49 s ((g8 s).getD i (0,false)) j=_;rw [hfd];unfold a49;rw [hx]
  rw [eA]
  obtain ⟨c,hc,hb⟩:=a3b h1 x.terms.length j
  obtain ⟨c',hc',hb'⟩:=b8T (b:=f.2) (x:=L1 x.terms j) hc
  exact ⟨c',hc',by rw [hb'];exact ah9 hb⟩
 g:=fun j hj=>by
  obtain ⟨c,hc,hb⟩:=a3b hg g.length j
  exact ⟨-c,by rw [show L1 g j=((c:Int):Rat) from hc];push_cast;rfl,by rw [Int.natAbs_neg];exact ah9 hb⟩
 a1:=by decide
 ag:=by decide
theorem b3l:∀n,n<10->((a6Z (n+1) fun c=>if c=0 then 2305843009213693952 else 1048575:Nat):Int)<pw 15∧((a6Z n fun _=>1048575:Nat):Int)<pw 15∧((1000*a6Z n fun _=>1048575:Nat):Int)<pw 15:=by decide +kernel
structure a67 (s:l9):Prop where
 r:p5 s=true
 i:∀w ∈ s.rows,b8P w
 n:s.n<=9
 l:s.rows.length<=999
theorem b4t {s:l9} {g:List (Int × Rat)} (h:a67 s) (hg:T3 g):∀D,V8 (g8 s).length s.n.toNat (k6 s g) D->BdD (g8 s).length s.n.toNat 15 D:=by
 intro D hD
 have hn:=a4C h.r
 have:=h.n
 obtain ⟨p1,p2,p3⟩:=b3l s.n.toNat (by omega)
 obtain ⟨b1,b2,b3⟩:=b0v b8D (b3a h.i hg) a1D hD p1 p2 p3 p2
 exact ⟨b1,fun i hi j hj=>b2 i j hi hj,b3⟩
theorem ai7 {v:Rat} (h:ai8 v):rl v<=4:=by
 obtain ⟨z,h1,h2⟩:=h
 have:=a9N (x:=v) (p:=z) (q:=1000) (by decide) (by rw [← h1];rfl)
 have b1:bl z<=4:=a68 h2 (by decide)
 have b2:bl 1000<=4:=by have:=B5 (x:=1000) (by decide) (by decide);omega
 omega
theorem aH0 {s:l9} {g:List (Int × Rat)} (h:a67 s) (hg:k7 (-1) ((s.n.toNat:Nat):Int) g=true) (hw:T3 g):E8 s g s.n.toNat 15:=by
 have hn:=a4C h.r
 have h9:=h.n
 have hl:=h.l
 have hwr:=a29 hw
 have rows:∀w ∈ s.rows,w.terms.length<=100∧(∀ t ∈ w.terms,rl t.2<=200)∧rl w.value<=200:=fun w hw=>by
  obtain ⟨i,hi,rfl⟩:=List.getElem_of_mem hw
  have hrt:=(a1t h.r (lbf hi)).1
  have h1:=J1 hrt
  have h2:=h.i _ (lbE hi)
  exact ⟨by omega,fun t ht=>by have:=a29 h2.1 t ht;omega,by have:=ai7 h2.2;omega⟩
 refine ⟨⟨h.r,hg,hn.symm,by omega,fun w hw=>?_,fun t ht=>by have:=hwr t ht;omega,by omega⟩,⟨by omega,rows⟩,fun t ht=>by have:=hwr t ht;omega,b4t h hw,by decide,?_,by omega⟩
 ·obtain ⟨a1,a2,a3⟩:=rows w hw
  exact ⟨by omega,fun t ht=>by have:=a2 t ht;omega⟩
 ·have:s.n.toNat<=9:=by omega
  have:=lbT (15+2) (show s.n.toNat+3<=12 by omega)
  omega
theorem bm4 {s:l9} {g:List (Int × Rat)} (h:a67 s) (hg:k7 (-1) ((s.n.toNat:Nat):Int) g=true) (hw:T3 g):∀v ∈ p7 s g,rl v<=15:=a83 (aH0 h hg hw)
structure QT (t:g7):Prop where
 h:n9 t=0
 m:t.ev.moves.length<=8
 p:t.ev.places.length<=20
theorem QT.c {t:g7} (h:QT t):t.cleans.length<=50:=(z6 h.h).2.2.1
theorem aW4 (xs:List Int) (hl:xs.length<=1000000) (fg:FuncId) (caps:List T) (q:Int->Bool) (hg:∀x ∈ xs,b9 Tryz.prog fg (b7 .i64 x::caps.map fun x=>.c (.t x)) [] (j0 (q x)) []):
 b9 Tryz.prog 245 [i7 xs,.c (.t (.fn (.func fg) caps))] [] (b7 .i64 (J8 q xs 0)) []:=by
 have l1:(xs.map g9).length=xs.length:=by simp
 (refine ac Tryz.func245 ?_;(conv=>whnf);repeat (refine zy ?_;conv=>whnf))
 repeat' (first|refine zx ?_|refine zd ?_ ?_<;>intro h<;>try omega|fail)<;>conv=>whnf
 refine j7 g6 (fun k=>([i7 xs,S.c (C.t (T.fn (.func fg) caps)),J,J,J,J,J,b7 .i64 xs.length,b7 .i64 k]++Jn 10,[])) xs.length (fun k=>J8 q (xs.drop k) k=J8 q xs 0) [] rfl
  ⟨rfl,rfl,trivial,⟨k9 rfl,k9 rfl,e8 (by simp),rfl,trivial⟩⟩ ?_
 intro k hk hI
 by_cases hlt:k<xs.length
 ·obtain ⟨r,hr⟩:∃r,xs[k]? =some r:=⟨_,lbf hlt⟩
  have hd:xs.drop k=r::xs.drop (k+1):=by
   rw [List.drop_eq_getElem_cons hlt]
   rw [lbf hlt] at hr
   injection hr with hr
   rw [hr]
  have hgr:=hg r (lbm hr)
  have ha:(b7 .i64 r::caps.map fun x=>S.c (C.t x)).all S.isT=true:=by simp [S.isT,C.isT,b7]
  rw [hd] at hI
  have hI:(if q r then (k:Int) else J8 q (xs.drop (k+1)) (k+1))=J8 q xs 0:=hI
  cases hq:q r with
  |true=>
   rw [hq] at hgr hI
   conv=>whnf
   repeat' (first|refine zx ?_|refine .inl ⟨_,_,E9 hgr ha rfl,?_⟩|refine i3 hr ?_|refine zd ?_ ?_<;>intro h<;>try omega|fail)<;>conv=>whnf
   all_goals first
    |omega
    |exact t6 hI
  |false=>
   rw [hq] at hgr hI
   conv=>whnf
   repeat' (first|refine zx ?_|refine .inl ⟨_,_,E9 hgr ha rfl,?_⟩|refine i3 hr ?_|refine zd ?_ ?_<;>intro h<;>try omega|fail)<;>conv=>whnf
   all_goals first
    |omega
    |exact ⟨hlt,by simpa using hI,[],rfl,rfl,trivial,⟨rfl,rfl,rfl,rfl,trivial⟩⟩
 ·have hke:k=xs.length:=by omega
  subst hke
  rw [lbo (lbQ _)] at hI
  conv=>whnf
  repeat' (first|refine zx ?_|refine zd ?_ ?_<;>intro h<;>try omega|fail)<;>conv=>whnf
  all_goals first
   |omega
   |exact t6 hI
theorem a3a {α:Type} {l:List α} {k:Nat} {x:α} (h:l[k]? =some x):l.take (k+1)=l.take k++[x]:=by
 rw [lbG,h];rfl
theorem b02 (a b:List Int) (ha:a.length<=1000000) (hb:b.length<=1000000):b9 Tryz.prog 24 [i7 a,i7 b] [] (j0 (decide (a=b))) []:=by
 have l1:(a.map g9).length=a.length:=by simp
 have l2:(b.map g9).length=b.length:=by simp
 (refine ac Tryz.func24 ?_;(conv=>whnf);repeat (refine zy ?_;conv=>whnf))
 repeat' (first|refine zx ?_|refine zd ?_ ?_<;>intro h<;>try omega|fail)<;>conv=>whnf
 ·refine i4 (lbJ ?_).symm
  intro hab;subst hab;exact h rfl
 have hab:a.length=b.length:=by omega
 refine j7 g6 (fun k=>([i7 a,i7 b,J,J,J,b7 .i64 k]++Jn 20,[])) a.length (fun k=>a.take k=b.take k) [] rfl
  ⟨rfl,rfl,trivial,⟨k9 rfl,k9 rfl,e8 rfl,trivial⟩⟩ ?_
 intro k hk hI
 conv=>whnf
 repeat' (first|refine zx ?_|refine zd ?_ ?_<;>intro h<;>try omega|fail)<;>conv=>whnf
 ·have hlt:k<a.length:=by omega
  obtain ⟨x,hx⟩:∃x,a[k]? =some x:=⟨_,lbf hlt⟩
  obtain ⟨y,hy⟩:∃y,b[k]? =some y:=⟨_,lbf (by omega)⟩
  repeat' (first|refine zx ?_|refine i3 hx ?_|refine i3 hy ?_|refine zd ?_ ?_<;>intro h<;>try omega|fail)<;>conv=>whnf
  ·have hne:x≠y:=‹x≠y›
   refine i4 (lbJ ?_).symm
   intro hq;subst hq;rw [hx] at hy;injection hy with hy;exact hne hy
  ·have hxy:x=y:=by omega
   refine ⟨hlt,?_,[],rfl,rfl,trivial,⟨k9 rfl,k9 rfl,rfl,trivial⟩⟩
   rw [a3a hx,a3a hy,hI,hxy]
 ·refine i4 (lbH ?_).symm
  rw [lbn (by omega),lbn (by omega)] at hI
  exact hI
def a0m (e:Ev) (m:Int) (bl:List Bool):Bool:=decide (0<=m) && decide (m<e.moves.length) && decide ((bl.length:Int)=e.moves.length)
theorem aj8 (e:Ev) (m:Int) (bl:List Bool):b9 Tryz.prog 125 [evS e,b7 .i64 m,a2g bl] [] (j0 (a0m e m bl)) []:=by
 have l1:(e.moves.map t4.row).length=e.moves.length:=by simp
 have l2:(bl.map a2t).length=bl.length:=by simp
 (refine ac Tryz.func125 ?_;(conv=>whnf);repeat (refine zy ?_;conv=>whnf))
 repeat' (first|refine zx ?_|refine zd ?_ ?_<;>intro h<;>try omega|fail)<;>conv=>whnf
 all_goals (refine i4 ?_;simp [a0m];omega)
theorem a7E {α:Type} {p:Nat->α->Bool}:∀(l:List α) (k:Nat),(∀ i m,k<=i->p i m=false)->m7 p k l=[]
 |[],k,_=>rfl
 |m::r,k,h=>by
  rw [m7,h k m (lbQ _)]
  simp only [Bool.false_eq_true,if_false]
  exact a7E r (k+1) fun i m hi=>h i m (by omega)
theorem an6 {α:Type} {p:Nat->α->Bool} {l:List α} {n:Nat} (hn:n<=l.length) (h:∀i m,n<=i->p i m=false):m7 p 0 (l.take n)=m7 p 0 l:=by
 have:=a4a p (l.take n) (l.drop n) 0
 rw [lb7] at this
 rw [this,a7E (l.drop n) _ (fun i m hi=>h i m (by simp at hi;omega)),List.append_nil]
def a0n (e:Ev) (d:Int) (m i:Nat):Bool:=((e.moves.take i).drop (m+1)).all fun x=>!(decide (x.src=d) && x.all)
def a1N (e:Ev) (bl:List Bool) (d:Int) (m i:Nat) (x:t4):Bool:=decide (m<i) && decide (x.src=d) && a0n e d m i && !(bl.getD i true)
theorem a3G {e:Ev} {d:Int} {m:Nat}:a0n e d m (m+1)=true:=by
 unfold a0n;rw [List.drop_eq_nil_of_le (by simp;omega)];rfl
theorem a2q {e:Ev} {d:Int} {m k:Nat} {x:t4} (h:e.moves[k]? =some x) (hm:m<k):a0n e d m (k+1)=(a0n e d m k && !(decide (x.src=d) && x.all)):=by
 unfold a0n
 have hlt:=(lbe.1 h).1
 rw [a3a h,List.drop_append_of_le_length (by simp;omega),List.all_append]
 simp
theorem a98 {e:Ev} {d:Int} {m:Nat}:∀(n k:Nat),k<=n->m<k->a0n e d m k=false->a0n e d m n=false
 |0,k,h,hm,hk=>by omega
 |n+1,k,h,hm,hk=>by
  by_cases hkn:k=n+1
  ·subst hkn;exact hk
  ·have ih:=a98 n k (by omega) hm hk
   cases hx:e.moves[n]? with
   |none=>
    have hle:=List.getElem?_eq_none_iff.1 hx
    unfold a0n at ih ⊢
    rw [lbn (by omega)] at ih ⊢
    exact ih
   |some x=>rw [a2q hx (by omega),ih];rfl
theorem bd4 (e:Ev) (hs:e.Sized) (bl:List Bool) (m:Nat) (x0:t4) (hm:e.moves[m]? =some x0) (hb:bl.length=e.moves.length):
 b9 Tryz.prog 197 [evS e,b7 .i64 m,a2g bl] [] (i7 (m7 (a1N e bl x0.dst m) 0 e.moves)) []:=by
 have l1:=hs.s2
 have l2:(e.moves.map t4.row).length=e.moves.length:=by simp
 have l3:(bl.map a2t).length=bl.length:=by simp
 have hmlt:=(lbe.1 hm).1
 let P:Nat->t4->Bool:=a1N e bl x0.dst m
 (refine ac Tryz.func197 ?_;(conv=>whnf);repeat (refine zy ?_;conv=>whnf))
 repeat' (first|refine zx ?_|refine zd ?_ ?_<;>intro h<;>try omega|fail)<;>conv=>whnf
 have hp0:D8 P e.moves (m+1)=[]:=by
  unfold D8
  rw [List.eq_nil_iff_forall_not_mem]
  intro y hy
  obtain ⟨i,z,hz,hP,-⟩:=K0.1 hy
  have:=(lbe.1 hz).1
  simp only [lbs] at this
  simp [P,a1N] at hP
  omega
 refine j7 g6 (fun k=>([J,b7 .i64 m,a2g bl,S.c (C.ptr 0 0 0),J,J,J,Z7 1 (D8 P e.moves (m+1+k)),b7 .i64 ((m+1+k:Nat):Int)]++Jn 38,[evB e,t8 (D8 P e.moves (m+1+k))])) (e.moves.length - (m+1)) (fun k=>a0n e x0.dst m (m+1+k)=true) [some 0,none] a3G
  ⟨rfl,rfl,⟨⟨rfl,rfl,rfl,.inl ⟨rfl,k8 e⟩⟩,⟨?_,rfl⟩,trivial⟩,⟨rfl,k9 rfl,⟨rfl,rfl,rfl⟩,⟨rfl,rfl,?_⟩,e8 rfl,trivial⟩⟩ ?_
 ·show toC ((D8 P e.moves (m+1)).map g9)=[]
  rw [hp0];rfl
 ·show (D8 P e.moves (m+1)).length=0
  rw [hp0];rfl
 intro k hk hI
 have hpl:=a2C P e.moves (m+1+k)
 conv=>whnf
 repeat' (first|refine zx ?_|refine zd ?_ ?_<;>intro h<;>try omega|fail)<;>conv=>whnf
 ·have hlt:m+1+k<e.moves.length:=by omega
  obtain ⟨x,hx⟩:∃x,e.moves[m+1+k]? =some x:=⟨_,lbf hlt⟩
  obtain ⟨b,hbx⟩:∃b,bl[m+1+k]? =some b:=⟨_,lbf (by omega)⟩
  have hP:P (m+1+k) x=(decide (x.src=x0.dst) && !b):=by
   have hbd:bl.getD (m+1+k) true=b:=by rw [lbl,hbx];rfl
   have hmk:decide (m<m+1+k)=true:=by simp;omega
   simp only [P,a1N,hI,hbd,hmk,Bool.true_and,Bool.and_true]
  have hC:=a2q hx (show m<m+1+k by omega) (d:=x0.dst)
  rw [hI] at hC
  have hstop:x.src=x0.dst->x.all=true->m7 P 0 e.moves=D8 P e.moves (m+1+k+1):=fun h1 h2=>by
   refine (an6 (by omega) fun i z hi=>?_).symm
   have:=a98 (e:=e) (d:=x0.dst) (m:=m) i (m+1+k+1) hi (by omega) (hC.trans (by simp [h1,h2]))
   simp [P,a1N,this]
  repeat' (first|refine zx ?_|refine qp toC ?_|refine qp toC ?_|refine i3 hx ?_|refine i3 hm ?_|refine i3 hbx ?_|refine D5 (by simp [toC]) (by simp [toC];omega) ?_|refine zd ?_ ?_<;>intro h<;>try omega|fail)<;>conv=>whnf
  ·have hs':¬x.src=x0.dst:=‹x.src≠x0.dst›
   have hPf:P (m+1+k) x=false:=by rw [hP];simp [hs']
   refine ⟨by omega,hC.trans (by simp [hs']),[some 0,some 1],rfl,rfl,⟨⟨rfl,rfl,rfl,.inl ⟨rfl,k8 e⟩⟩,b8 rfl rfl rfl ?_ rfl,trivial⟩,⟨rfl,rfl,⟨rfl,rfl,rfl⟩,m8 rfl ?_,rfl,trivial⟩⟩
   ·exact congrArg (fun l=>toC (l.map g9)) (Z0 P hx hPf).symm
   ·exact congrArg List.length (Z0 P hx hPf).symm
  ·have hs':x.src=x0.dst:=aS1.1 ‹¬ x.src≠x0.dst›
   have hPf:P (m+1+k) x=false:=by rw [hP];simp_all
   have hst:=hstop hs' ‹x.all=true›
   show Fin 0 _ _ (i7 (m7 P 0 e.moves)) []
   rw [hst,Z0 P hx hPf]
   exact R3 rfl (by intro h;cases h) rfl rfl (by simp)
  ·have hs':x.src=x0.dst:=aS1.1 ‹¬ x.src≠x0.dst›
   have ha':x.all=false:=‹x.all=false›
   have hPf:P (m+1+k) x=false:=by rw [hP];simp_all
   refine ⟨by omega,hC.trans (by simp [ha']),[some 0,some 1],rfl,rfl,⟨⟨rfl,rfl,rfl,.inl ⟨rfl,k8 e⟩⟩,b8 rfl rfl rfl ?_ rfl,trivial⟩,⟨rfl,rfl,⟨rfl,rfl,rfl⟩,m8 rfl ?_,rfl,trivial⟩⟩
   ·exact congrArg (fun l=>toC (l.map g9)) (Z0 P hx hPf).symm
   ·exact congrArg List.length (Z0 P hx hPf).symm
  ·have hs':x.src=x0.dst:=aS1.1 ‹¬ x.src≠x0.dst›
   have hb':b=false:=‹b=false›
   have hPt:P (m+1+k) x=true:=by rw [hP];simp [hs',hb']
   have hst:=hstop hs' ‹x.all=true›
   show Fin 0 _ _ (i7 (m7 P 0 e.moves)) []
   rw [hst,a20 P hx hPt]
   refine R3 rfl (by intro h;cases h) rfl ?_ (by simp [toC])
   rw [lbC]
   exact (congrArg (fun n=>List.take n (toC ((D8 P e.moves (m+1+k)).map g9))++toC [[ti (m+1+k:Nat)]]) (by simp)).trans a7t
  ·have hs':x.src=x0.dst:=aS1.1 ‹¬ x.src≠x0.dst›
   have ha':x.all=false:=‹x.all=false›
   have hb':b=false:=‹b=false›
   have hPt:P (m+1+k) x=true:=by rw [hP];simp [hs',hb']
   have hy:=a20 P hx hPt
   refine ⟨by omega,hC.trans (by simp [ha']),[some 0,some 2],rfl,rfl,⟨⟨rfl,rfl,rfl,.inl ⟨rfl,k8 e⟩⟩,b8 (rows:=(D8 P e.moves (m+1+k+1)).map g9) rfl rfl rfl ?_ rfl,trivial⟩,⟨rfl,rfl,⟨rfl,rfl,rfl⟩,m8 rfl ?_,rfl,trivial⟩⟩
   ·rw [hy,lbC]
    exact (congrArg (fun n=>List.take n (toC ((D8 P e.moves (m+1+k)).map g9))++toC [[ti (m+1+k:Nat)]]) (by simp)).trans a7t
   ·show _=(D8 P e.moves (m+1+k+1)).length
    rw [hy];simp [toC]
 ·have hk':m7 P 0 e.moves=D8 P e.moves (m+1+k):=(a6m P (by omega)).symm
  show Fin 0 _ _ (i7 (m7 P 0 e.moves)) []
  rw [hk']
  exact R3 rfl (by intro h;cases h) rfl rfl (by simp)
theorem b4M (l:List Int) (n:Int) (ha:l.length<=1000000):b9 Tryz.prog 175 [i7 l,b7 .i64 n] [] (b7 .i64 (if (l.any fun x=>decide (x=n)) then (l.findIdx fun x=>decide (x=n)) else -1)) []:=by
 have l1:(l.map g9).length=l.length:=by simp
 (refine ac Tryz.func175 ?_;(conv=>whnf);repeat (refine zy ?_;conv=>whnf))
 refine j7 g6 (fun k=>([i7 l,b7 .i64 n,J,J,J,J,i7 l,b7 .i64 l.length,b7 .i64 k]++Jn 10,[])) l.length (fun k=>(l.take k).any (fun x=>decide (x=n))=false) [] rfl
  ⟨rfl,rfl,trivial,⟨k9 rfl,rfl,k9 rfl,e8 (by simp),e8 rfl,trivial⟩⟩ ?_
 intro k hk hI
 conv=>whnf
 repeat' (first|refine zx ?_|refine zd ?_ ?_<;>intro h<;>try omega|fail)<;>conv=>whnf
 ·have hlt:k<l.length:=by omega
  obtain ⟨x,hx⟩:∃x,l[k]? =some x:=⟨_,lbf hlt⟩
  have hxg:l[k]=x:=(lbe.1 hx).2
  repeat' (first|refine zx ?_|refine i3 hx ?_|refine zd ?_ ?_<;>intro h<;>try omega|fail)<;>conv=>whnf
  ·have hxn:x=n:=by omega
   refine t6 ?_
   rw [if_pos (a6t hx (by simpa using hxn)),(List.findIdx_eq hlt).2 ⟨by simp [hxg,hxn],fun j hj=>?_⟩]
   rw [List.any_eq_false] at hI
   have:=hI l[j] (List.mem_take_iff_getElem.2 ⟨j,by omega,rfl⟩)
   simpa using this
  ·have hne:¬x=n:=by omega
   refine ⟨hlt,?_,[],rfl,rfl,trivial,⟨rfl,rfl,rfl,rfl,rfl,trivial⟩⟩
   rw [a2S hx,hI]
   simpa using hne
 ·refine t6 ?_
  rw [lbn (by omega)] at hI
  rw [hI];rfl
theorem a8Z (l:List Int) (n:Int) (ha:l.length<=1000000):b9 Tryz.prog 104 [i7 l,b7 .i64 n] [] (j0 (l.any fun x=>decide (x=n))) []:=by
 (refine ac Tryz.func104 ?_;(conv=>whnf);repeat (refine zy ?_;conv=>whnf))
 repeat' (first|refine zx ?_|refine qp (b4M _ _ ha) ?_|refine zd ?_ ?_<;>intro h<;>try omega|fail)<;>conv=>whnf
 all_goals
  refine i4 ?_
  cases hb:(l.any fun x=>decide (x=n)) with
  |true=>simp_all
  |false=>simp_all
theorem b01 {s:l9} (h:a67 s):b4b s:=by
 have hn:=a4C h.r
 have h9:=h.n
 refine ⟨by have:=h.l;omega,fun w hw=>?_⟩
 obtain ⟨i,hi,rfl⟩:=List.getElem_of_mem hw
 have h1:=J1 (a1t h.r (lbf hi)).1
 have h2:=h.i _ (lbE hi)
 exact ⟨by omega,fun t ht=>by have:=a29 h2.1 t ht;omega,by have:=ai7 h2.2;omega⟩
def G0:List Int->Nat->List (List Int)
 |_,0=>[[]]
 |[],_+1=>[]
 |x::r,n+1=>(G0 r n).map (x::·)++G0 r (n+1)
def H6 (a b:List Int):Bool:=a.all fun x=>b.any fun y=>decide (y=x)
theorem a5q {a b:List Int}:H6 a b=true↔∀x ∈ a,x ∈ b:=by
 unfold H6
 rw [lbv]
 constructor
 ·intro h x hx
  obtain ⟨y,hy,e⟩:=lbw.1 (h x hx)
  rw [← lbL e];exact hy
 ·intro h x hx
  exact lbw.2 ⟨x,h x hx,lbH rfl⟩
theorem O2:∀{l:List Int} {n:Nat} {s:List Int},s ∈ G0 l n↔s.Sublist l∧s.length=n
 |l,0,s=>by
  simp only [G0,List.mem_singleton]
  constructor
  ·rintro rfl;exact ⟨List.nil_sublist _,rfl⟩
  ·rintro ⟨_,h⟩;exact lbF h
 |[],n+1,s=>by
  simp only [G0]
  constructor
  ·intro h;cases h
  ·rintro ⟨h1,h2⟩
   rw [List.sublist_nil.1 h1] at h2;cases h2
 |x::r,n+1,s=>by
  simp only [G0,lbz,lbx]
  constructor
  ·rintro (⟨q,hq,rfl⟩|h)
   ·obtain ⟨h1,h2⟩:=O2.1 hq
    exact ⟨h1.cons_cons x,by simp [h2]⟩
   ·obtain ⟨h1,h2⟩:=O2.1 h
    exact ⟨h1.cons x,h2⟩
  ·rintro ⟨h1,h2⟩
   cases h1 with
   |cons _ h1=>exact .inr (O2.2 ⟨h1,h2⟩)
   |cons_cons _ h1=>exact .inl ⟨_,O2.2 ⟨h1,by simpa using h2⟩,rfl⟩
def I9 (p:List Int->Bool) (l:List Int) (short:Bool):Nat->List (List Int)
 |0=>[]
 |n+1=>if short=true∧I9 p l short n≠[] then I9 p l short n
  else I9 p l short n++(G0 l n).filter fun s=>!((I9 p l short n).any fun a=>H6 a s) && p s
def az0 (p:List Int->Bool) (l:List Int) (short:Bool):List (List Int):=I9 p l short (l.length+1)
theorem b3M {p:List Int->Bool} {l:List Int} {n:Nat}:I9 p l false (n+1)=I9 p l false n++(G0 l n).filter fun s=>!((I9 p l false n).any fun a=>H6 a s) && p s:=by
 rw [I9,if_neg (by simp)]
theorem a1P {p:List Int->Bool} {l:List Int}:∀{n:Nat} {s:List Int},s ∈ I9 p l false n↔s.Sublist l∧s.length<n∧p s=true∧∀a ∈ I9 p l false s.length,H6 a s=false
 |0,s=>by simp [I9]
 |n+1,s=>by
  have ih:=a1P (p:=p) (l:=l) (n:=n) (s:=s)
  rw [b3M,lbz,ih,lby,O2]
  simp only [lbM,Bool.not_eq_true',←lbP]
  constructor
  ·rintro (⟨h1,h2,h3⟩|⟨⟨h1,h2⟩,h3,h4⟩)
   ·exact ⟨h1,by omega,h3⟩
   ·refine ⟨h1,by omega,h4,fun a ha h=>h3 ?_⟩
    rw [← h2]
    exact lbw.2 ⟨a,ha,h⟩
  ·rintro ⟨h1,h2,h3,h4⟩
   by_cases hn:s.length<n
   ·exact .inl ⟨h1,hn,h3,h4⟩
   ·have hn:s.length=n:=by omega
    refine .inr ⟨⟨h1,hn⟩,fun h=>?_,h3⟩
    obtain ⟨a,ha,hp⟩:=lbw.1 h
    rw [← hn] at ha
    exact h4 a ha hp
theorem b1E {l s:List Int} (hl:l.Pairwise (·<·)) (h:s.Sublist l):s.Pairwise (·<·):=hl.sublist h
theorem a9M:∀{a b:List Int},a.Pairwise (·<·)->b.Pairwise (·<·)->(∀ x ∈ a,x ∈ b)->a.Sublist b
 |[],b,_,_,_=>List.nil_sublist b
 |x::a,[],_,_,h=>by have:=h x (by simp);cases this
 |x::a,y::b,ha,hb,h=>by
  obtain ⟨a1,a2⟩:=List.pairwise_cons.1 ha
  obtain ⟨b1,b2⟩:=List.pairwise_cons.1 hb
  rcases lbA.1 (h x (by simp)) with rfl|hx
  ·refine (a9M a2 b2 fun z hz=>?_).cons_cons x
   rcases lbA.1 (h z (by simp [hz])) with rfl|hz2
   ·exact absurd (a1 z hz) (by omega)
   ·exact hz2
  ·refine (a9M ha b2 fun z hz=>?_).cons y
   rcases lbA.1 (h z hz) with rfl|hz2
   ·rcases lbA.1 hz with rfl|hz3
    ·exact hx
    ·have:=a1 z hz3;have:=b1 x hx;omega
   ·exact hz2
theorem b1s {p:List Int->Bool} {l:List Int} (hl:l.Pairwise (·<·)) {s:List Int}:s ∈ az0 p l false↔s.Sublist l∧p s=true∧∀a,a.Sublist s->a≠s->p a=false:=by
 have key:∀(n:Nat) (s:List Int),s.length=n->s.Sublist l->(s ∈ az0 p l false↔p s=true∧∀a,a.Sublist s->a≠s->p a=false):=by
  intro n
  induction n using Nat.strongRecOn with
  |ind n ih=>
   intro s hn hs
   unfold az0
   rw [a1P]
   constructor
   ·rintro ⟨_,h2,h3,h4⟩
    refine ⟨h3,fun a ha hne=>?_⟩
    rw [← lbP]
    intro hp
    -- a smallest part of a with the property
    have hlt:a.length<s.length:=by
     rcases Nat.lt_or_ge a.length s.length with h|h
     ·exact h
     ·exact absurd (ha.eq_of_length_le h) hne
    have ex:∀(k:Nat) (b:List Int),b.length=k->b.Sublist s->b.length<s.length->p b=true->∃c,c.Sublist b∧c ∈ az0 p l false:=by
     intro k
     induction k using Nat.strongRecOn with
     |ind k ihk=>
      intro b hb hbs hbl hpb
      by_cases hm:∀a,a.Sublist b->a≠b->p a=false
      ·exact ⟨b,List.Sublist.refl _,(ih b.length (by omega) b rfl (hbs.trans hs)).2 ⟨hpb,hm⟩⟩
      ·have ⟨c,hc⟩:∃c,c.Sublist b∧c≠b∧p c=true:=by
        apply a1f
        intro hno
        exact hm fun a h1 h2=>by
         rw [← lbP];intro h3;exact hno ⟨a,h1,h2,h3⟩
       obtain ⟨c1,c2,c3⟩:=hc
       have hcl:c.length<b.length:=by
        rcases Nat.lt_or_ge c.length b.length with h|h
        ·exact h
        ·exact absurd (c1.eq_of_length_le h) c2
       obtain ⟨d,d1,d2⟩:=ihk c.length (by omega) c rfl (c1.trans hbs) (by omega) c3
       exact ⟨d,d1.trans c1,d2⟩
    obtain ⟨c,c1,c2⟩:=ex a.length a rfl ha hlt hp
    obtain ⟨m1,m2,m3,m4⟩:=a1P.1 c2
    have hc3:c ∈ I9 p l false s.length:=a1P.2 ⟨m1,by have:=c1.length_le;omega,m3,m4⟩
    have:=h4 c hc3
    rw [a5q.2 fun x hx=>ha.subset (c1.subset hx)] at this
    cases this
   ·rintro ⟨h1,h2⟩
    refine ⟨hs,by have:=hs.length_le;omega,h1,fun a ha=>?_⟩
    obtain ⟨m1,m2,m3,m4⟩:=a1P.1 ha
    rw [← lbP]
    intro hp
    have hsub:=a9M (b1E hl m1) (b1E hl hs) (a5q.1 hp)
    have:=h2 a hsub (by intro e;rw [e] at m2;omega)
    rw [this] at m3;cases m3
 constructor
 ·intro h
  have h1:=(a1P.1 h).1
  exact ⟨h1,(key _ s rfl h1).1 h⟩
 ·rintro ⟨h1,h2⟩
  exact (key _ s rfl h1).2 h2
theorem b6f {p:List Int->Bool} {l:List Int} (hl:l.Pairwise (·<·)):∀(n:Nat) (s:List Int),s.length=n->s.Sublist l->p s=true->∃c,c.Sublist s∧c ∈ az0 p l false:=by
 intro n
 induction n using Nat.strongRecOn with
 |ind n ih=>
  intro s hn hs hp
  by_cases hm:∀a,a.Sublist s->a≠s->p a=false
  ·exact ⟨s,List.Sublist.refl _,(b1s hl).2 ⟨hs,hp,hm⟩⟩
  ·have ⟨c,hc⟩:∃c,c.Sublist s∧c≠s∧p c=true:=by
    apply a1f
    intro hno
    exact hm fun a h1 h2=>by
     rw [← lbP];intro h3;exact hno ⟨a,h1,h2,h3⟩
   obtain ⟨c1,c2,c3⟩:=hc
   have hcl:c.length<s.length:=by
    rcases Nat.lt_or_ge c.length s.length with h|h
    ·exact h
    ·exact absurd (c1.eq_of_length_le h) c2
   obtain ⟨d,d1,d2⟩:=ih c.length (by omega) c rfl (c1.trans hs) c3
   exact ⟨d,d1.trans c1,d2⟩
theorem aI9 {p:List Int->Bool} {l:List Int}:∀n,∃rest,I9 p l false n=I9 p l true n++rest∧(I9 p l true n=[]->rest=[])∧(∀ a ∈ I9 p l true n,∀b ∈ I9 p l true n,a.length=b.length)∧(∀ a ∈ I9 p l true n,∀b ∈ rest,a.length<b.length)
 |0=>⟨[],rfl,fun _=>rfl,by simp [I9],by simp [I9]⟩
 |n+1=>by
  obtain ⟨rest,h1,h2,h3,h4⟩:=aI9 (p:=p) (l:=l) n
  by_cases hs:I9 p l true n=[]
  ·have hr:=h2 hs
   rw [hs,hr] at h1
   have e1:I9 p l true (n+1)=(G0 l n).filter fun s=>!((([]:List (List Int))).any fun a=>H6 a s) && p s:=by
    rw [I9,if_neg (by rw [hs];simp),hs];rfl
   have e2:I9 p l false (n+1)=(G0 l n).filter fun s=>!((([]:List (List Int))).any fun a=>H6 a s) && p s:=by
    rw [I9,if_neg (by simp),h1];rfl
   refine ⟨[],by rw [e1,e2,List.append_nil],fun _=>rfl,fun a ha b hb=>?_,fun _ _ b hb=>by cases hb⟩
   rw [e1] at ha hb
   rw [(O2.1 (lby.1 ha).1).2,(O2.1 (lby.1 hb).1).2]
  ·have e1:I9 p l true (n+1)=I9 p l true n:=by rw [I9,if_pos ⟨rfl,hs⟩]
   refine ⟨rest++(G0 l n).filter fun s=>!((I9 p l false n).any fun a=>H6 a s) && p s,?_,fun h=>absurd (e1 ▸ h) hs,by rw [e1];exact h3,?_⟩
   ·rw [e1]
    conv=>lhs;rw [I9,if_neg (by simp)]
    rw [h1,lbD]
   ·rw [e1]
    intro a ha b hb
    rcases lbz.1 hb with hb|hb
    ·exact h4 a ha b hb
    ·have q1:a ∈ I9 p l false n:=by rw [h1];exact lbz.2 (.inl ha)
     have:=(a1P.1 q1).2.1
     rw [(O2.1 (lby.1 hb).1).2];exact this
section
open Go.RowKit
def b93 (t:g7) (kind:Int) (n:Nat) (set:List Int):Prop:=∃z,i6 (n8 t kind) z=true∧∀h:Nat,h<n->(h:Int) ∉ set->n7 (F5 t h) z=0
noncomputable def pX (t:g7) (kind:Int) (n:Nat) (set:List Int):Bool:=
 open Classical in decide (b93 t kind n set)
theorem a7U {t:g7} {kind:Int} {n:Nat} {set:List Int}:pX t kind n set=true↔b93 t kind n set:=by unfold pX;exact @decide_eq_true_iff _ (Classical.propDecidable _)
theorem b1X {t:g7} {kind:Int} {n:Nat} {a b:List Int} (h:∀x ∈ a,x ∈ b) (ha:pX t kind n a=true):pX t kind n b=true:=by
 obtain ⟨z,h1,h2⟩:=a7U.1 ha
 exact a7U.2 ⟨z,h1,fun i hi hn=>h2 i hi fun hc=>hn (h _ hc)⟩
noncomputable def C4 (t:g7) (kind:Int) (n:Nat):List Int:=((List.range n).filter fun i=>decide (U6 t kind i≠0)).map fun i=>((i:Nat):Int)
theorem b6P {t:g7} {kind:Int} {n:Nat} {x:Int}:x ∈ C4 t kind n↔∃i:Nat,x=i∧i<n∧U6 t kind i≠0:=by
 unfold C4
 rw [lbx]
 constructor
 ·rintro ⟨i,hi,rfl⟩
  obtain ⟨h1,h2⟩:=lby.1 hi
  exact ⟨i,rfl,lbB.1 h1,lbL h2⟩
 ·rintro ⟨i,rfl,h1,h2⟩
  exact ⟨i,lby.2 ⟨lbB.2 h1,lbH h2⟩,rfl⟩
theorem al1 (t:g7) (kind:Int) (n:Nat):(C4 t kind n).Pairwise (·<·):=by
 unfold C4
 rw [List.pairwise_map]
 refine (List.Pairwise.filter _ List.pairwise_lt_range).imp fun {a b} h=>?_
 show ((a:Nat):Int)<((b:Nat):Int);omega
theorem a57 (t:g7) (kind:Int) (n:Nat):(C4 t kind n).length<=n:=by
 unfold C4
 rw [lbr]
 have:=lbt (fun i=>decide (U6 t kind i≠0)) (List.range n)
 rwa [List.length_range] at this
section
variable {t:g7} {kind:Int} {n:Nat}
theorem ai3 (h:ExP t kind n) {i:Nat} (h0:U6 t kind i=0) {z:List Rat} (hz:i6 (n8 t kind) z=true):n7 (F5 t (i:Int)) z=0:=by
 rcases a1T (h.vd (i:Int)) (i:Int) with ⟨h2,_⟩|⟨_,h2⟩|⟨h2,_⟩
 ·unfold U6 at h0;omega
 ·exact h2 z hz
 ·unfold U6 at h0;omega
noncomputable def aX7 (t:g7) (n:Nat) (z:List Rat):List Int:=((List.range n).filter fun i=>open Classical in decide (0<n7 (F5 t ((i:Nat):Int)) z)).map fun i=>((i:Nat):Int)
theorem aS2 {z:List Rat} {x:Int}:x ∈ aX7 t n z↔∃i:Nat,x=i∧i<n∧0<n7 (F5 t ((i:Nat):Int)) z:=by
 unfold aX7
 rw [lbx]
 constructor
 ·rintro ⟨i,hi,rfl⟩
  obtain ⟨h1,h2⟩:=lby.1 hi
  exact ⟨i,rfl,lbB.1 h1,lbL h2⟩
 ·rintro ⟨i,rfl,h1,h2⟩
  exact ⟨i,lby.2 ⟨lbB.2 h1,lbH h2⟩,rfl⟩
theorem b6M (z:List Rat):(aX7 t n z).Pairwise (·<·):=by
 unfold aX7
 rw [List.pairwise_map]
 refine (List.Pairwise.filter _ List.pairwise_lt_range).imp fun {a b} h=>?_
 show ((a:Nat):Int)<((b:Nat):Int);omega
theorem b3v (h:ExP t kind n) {z:List Rat} (hz:i6 (n8 t kind) z=true):pX t kind n (aX7 t n z)=true:=by
 refine a7U.2 ⟨z,hz,fun i hi hn=>?_⟩
 have h1:=(h.vd (i:Int)).pos hz
 have h2:¬0<n7 (F5 t (i:Int)) z:=fun hp=>hn (aS2.2 ⟨i,rfl,hi,hp⟩)
 grind
theorem b5R (h:ExP t kind n) {z:List Rat} (hz:i6 (n8 t kind) z=true):(aX7 t n z).Sublist (C4 t kind n):=by
 refine a9M (b6M z) (al1 t kind n) fun x hx=>?_
 obtain ⟨i,rfl,h1,h2⟩:=aS2.1 hx
 refine b6P.2 ⟨i,rfl,h1,fun h0=>?_⟩
 rw [ai3 h h0 hz] at h2
 exact absurd h2 (by decide +kernel)
noncomputable def S8 (t:g7) (kind:Int) (n:Nat) (short:Bool):List (List Int):=az0 (pX t kind n) (C4 t kind n) short
theorem b6b {s:List Int}:s ∈ S8 t kind n false↔s.Sublist (C4 t kind n)∧pX t kind n s=true∧∀a,a.Sublist s->a≠s->pX t kind n a=false:=b1s (al1 t kind n)
theorem b6T (h:ExP t kind n) {z:List Rat} (hz:i6 (n8 t kind) z=true):∃c ∈ S8 t kind n false,c.Sublist (aX7 t n z):=by
 obtain ⟨c,h1,h2⟩:=b6f (al1 t kind n) _ _ rfl (b5R h hz) (b3v h hz)
 exact ⟨c,h2,h1⟩
theorem b78 (h:ExP t kind n):S8 t kind n false≠[]:=by
 obtain ⟨c,hc,_⟩:=b6T h (h.vd 0).has
 exact List.ne_nil_of_mem hc
theorem bf6 (h:ExP t kind n):∃rest,S8 t kind n false=S8 t kind n true++rest∧S8 t kind n true≠[]∧(∀ a ∈ S8 t kind n true,∀b ∈ S8 t kind n true,a.length=b.length)∧(∀ a ∈ S8 t kind n true,∀b ∈ rest,a.length<b.length):=by
 obtain ⟨rest,h1,h2,h3,h4⟩:=aI9 (p:=pX t kind n) (l:=C4 t kind n) ((C4 t kind n).length+1)
 refine ⟨rest,h1,fun he=>?_,h3,h4⟩
 have hr:=h2 he
 have hne:=b78 h
 have:S8 t kind n false=S8 t kind n true++rest:=h1
 rw [he,hr] at this
 exact hne this
end
end
def a4Z (bl:List Bool) (i:Nat) (x:t4) (a:List Bool):List Bool:=
 cond (a.getD x.src.toNat false) (cond x.all ((cond (bl.getD i true) a (a.set x.dst.toNat true)).set x.src.toNat false) (cond (bl.getD i true) a (a.set x.dst.toNat true))) a
def a5V (e:Ev) (bl:List Bool) (m:Nat) (d:Nat):Nat->List Bool
 |0=>(List.replicate e.places.length false).set d true
 |k+1=>match e.moves[m+1+k]? with
  |some x=>a4Z bl (m+1+k) x (a5V e bl m d k)
  |none=>a5V e bl m d k
theorem aA2 {bl:List Bool} {i:Nat} {x:t4} {a:List Bool}:(a4Z bl i x a).length=a.length:=by
 unfold a4Z
 cases a.getD x.src.toNat false<;>cases x.all<;>cases bl.getD i true<;>simp
theorem aa4 {e:Ev} {bl:List Bool} {m d:Nat}:∀k,(a5V e bl m d k).length=e.places.length
 |0=>by simp [a5V]
 |k+1=>by
  unfold a5V
  split
  ·rw [aA2,aa4 k]
  ·exact aa4 k
theorem b2T {e:Ev} {bl:List Bool} {m d k:Nat} {x:t4} (h:e.moves[m+1+k]? =some x):a5V e bl m d (k+1)=a4Z bl (m+1+k) x (a5V e bl m d k):=by
 rw [a5V,h]
def M3 (e:Ev) (bl:List Bool) (m:Int):List Int:=match e.moves[m.toNat]? with
 |some x=>m7 (a1N e bl x.dst m.toNat) 0 e.moves
 |none=>[]
structure BQ where
 bef:List Int
 que:List Int
def P3 (m:Int) (s:BQ) (k:Int):BQ:=if s.bef.getD k.toNat 0=-1 then ⟨s.bef.set k.toNat m,s.que++[k]⟩ else s
def a2B (e:Ev) (bl:List Bool) (s:BQ) (m:Int):BQ:=(M3 e bl m).foldl (P3 m) s
def a4H (e:Ev) (bl:List Bool) (s:BQ) (b:Nat):BQ:=(s.que.drop b).foldl (a2B e bl) s
def a2j (e:Ev) (bl:List Bool) (t:Int):Nat->BQ->Nat->BQ
 |0,s,_=>s
 |f+1,s,b=>if b<s.que.length∧s.bef.getD t.toNat 0=-1 then a2j e bl t f (a4H e bl s b) s.que.length else s
def S1 (e:Ev) (fr:Int):BQ:=⟨(List.replicate e.moves.length (-1)).set fr.toNat fr,[fr]⟩
def I5 (bef:List Int) (fr:Int):Nat->Int->List Int
 |0,v=>[v]
 |f+1,v=>if v=fr then [v] else v::I5 bef fr f (bef.getD v.toNat 0)
def a8n (e:Ev) (bl:List Bool) (fr t:Int):BQ:=a2j e bl t (e.moves.length+1) (S1 e fr) 0
def O6 (e:Ev) (bl:List Bool) (fr t:Int):List Int:=
 if a0m e fr bl=true∧a0m e t bl=true∧bl.getD fr.toNat true=false then
  if (a8n e bl fr t).bef.getD t.toNat 0=-1 then [] else (I5 (a8n e bl fr t).bef fr (t.toNat+1) t).reverse
 else []
structure G7 (n:Nat) (fr:Int) (s:BQ):Prop where
 len:s.bef.length=n
 cnt:s.que.length+s.bef.countP (fun x=>decide (x=-1))=n
 que:∀v ∈ s.que,0<=v∧v.toNat<n∧fr<=v∧s.bef.getD v.toNat 0≠-1
 bef:∀k,k<n->s.bef.getD k 0≠-1->((k:Int)=fr∧s.bef.getD k 0=fr)∨(0<=s.bef.getD k 0∧s.bef.getD k 0<k∧s.bef.getD (s.bef.getD k 0).toNat 0≠-1∧(k:Int)≠fr)
theorem au3 {l:List Int} {i:Nat} {v:Int} (h:l.getD i 0=-1) (hv:v≠-1):(l.set i v).countP (fun x=>decide (x=-1))+1=l.countP (fun x=>decide (x=-1)):=by
 induction l generalizing i with
 |nil=>simp at h
 |cons x l ih=>
  cases i with
  |zero=>
   simp at h
   subst h
   simp [List.countP_cons,hv]
  |succ i=>
   have:=ih (i:=i) (by simpa using h)
   simp only [List.set_cons_succ,List.countP_cons]
   omega
theorem K2 {l:List Int} {i j:Nat} {v:Int} (hi:i<l.length):(l.set i v).getD j 0=if j=i then v else l.getD j 0:=by
 rw [lbl,lbl]
 by_cases h:j=i
 ·subst h;rw [List.getElem?_set_self hi,if_pos rfl];rfl
 ·rw [List.getElem?_set_ne (Ne.symm h),if_neg h]
theorem a3r {e:Ev} {bl:List Bool} {m k:Int} (hm:0<=m) (h:k ∈ M3 e bl m):0<=k∧k.toNat<e.moves.length∧m<k:=by
 unfold M3 at h
 split at h
 ·obtain ⟨i,z,hz,hP,rfl⟩:=K0.1 h
  have:=(lbe.1 hz).1
  simp [a1N] at hP
  omega
 ·cases h
theorem G7.stepK {n:Nat} {fr:Int} {s:BQ} (h:G7 n fr s) {m k:Int} (hm:0<=m) (hmn:m.toNat<n) (hmb:s.bef.getD m.toNat 0≠-1) (hk:k.toNat<n) (hmk:m<k) (hfr:fr<=m):
 G7 n fr (P3 m s k):=by
 unfold P3
 split
 ·rename_i hb
  have hkl:k.toNat<s.bef.length:=by rw [h.len];exact hk
  have hc:=au3 (v:=m) hb (by omega)
  have hmk':m.toNat≠k.toNat:=by omega
  refine ⟨by simpa using h.len,by have:=h.cnt;simp only [lbq,List.length_singleton];omega,?_,?_⟩
  ·intro v hv
   rcases lbz.1 hv with hv|hv
   ·obtain ⟨h1,h2,h4,h3⟩:=h.que v hv
    refine ⟨h1,h2,h4,?_⟩
    rw [K2 hkl]
    split
    ·omega
    ·exact h3
   ·simp at hv
    subst hv
    refine ⟨by omega,hk,by omega,?_⟩
    rw [K2 hkl,if_pos rfl]
    omega
  ·intro j hj
   simp only [K2 hkl]
   by_cases hjk:j=k.toNat
   ·rw [if_pos hjk]
    intro _
    refine .inr ⟨hm,by omega,?_,by omega⟩
    rw [if_neg hmk']
    exact hmb
   ·rw [if_neg hjk]
    intro h1
    rcases h.bef j hj h1 with h2|⟨h2,h3,h4,h5⟩
    ·exact .inl h2
    ·refine .inr ⟨h2,h3,?_,h5⟩
     split
     ·omega
     ·exact h4
 ·exact h
theorem b0p {m k v:Int} {s:BQ} (h:s.bef.getD v.toNat 0≠-1) (hm:m≠-1) (hl:k.toNat<s.bef.length):(P3 m s k).bef.getD v.toNat 0≠-1:=by
 unfold P3
 split
 ·show (s.bef.set _ _).getD _ _≠_
  rw [K2 hl]
  split
  ·exact hm
  ·exact h
 ·exact h
theorem a9e {e:Ev} {fr:Int} (h0:0<=fr) (h1:fr.toNat<e.moves.length):G7 e.moves.length fr (S1 e fr):=by
 have hl:fr.toNat<(List.replicate e.moves.length (-1:Int)).length:=by simpa using h1
 have hg:(List.replicate e.moves.length (-1:Int)).getD fr.toNat 0=-1:=by simp [lbl,lbk,h1]
 have hc:=au3 (v:=fr) hg (by omega)
 have hc2:(List.replicate e.moves.length (-1:Int)).countP (fun x=>decide (x=-1))=e.moves.length:=by simp [List.countP_replicate]
 refine ⟨by simp [S1],?_,?_,?_⟩
 ·show 1+_=_
  unfold S1
  simp only
  omega
 ·intro v hv
  simp [S1] at hv
  subst hv
  refine ⟨h0,h1,Int.le_refl _,?_⟩
  unfold S1
  simp only
  rw [K2 hl,if_pos rfl]
  omega
 ·intro k hk
  unfold S1
  simp only [K2 hl]
  by_cases hkf:k=fr.toNat
  ·rw [if_pos hkf]
   intro _
   exact .inl ⟨by omega,rfl⟩
  ·rw [if_neg hkf]
   intro hne
   exact absurd (by simp [lbl,lbk,hk]) hne
theorem G7.room {n:Nat} {fr:Int} {s:BQ} (h:G7 n fr s):s.que.length<=n:=by have:=h.cnt;omega
theorem a4g {α β:Type} {f:β->α->β} {l:List α} {s:β} {k:Nat} {x:α} (h:l[k]? =some x):(l.take (k+1)).foldl f s=f ((l.take k).foldl f s) x:=by
 rw [lbG,h,List.foldl_append];rfl
def OkQ (n:Nat) (fr:Int) (s:BQ) (v:Int):Prop:=0<=v∧v.toNat<n∧fr<=v∧s.bef.getD v.toNat 0≠-1
theorem G7.stepKs {n:Nat} {fr m:Int}:∀{ks:List Int} {s:BQ},G7 n fr s->OkQ n fr s m->(∀ k ∈ ks,k.toNat<n∧m<k)->
 G7 n fr (ks.foldl (P3 m) s)∧∀v,OkQ n fr s v->OkQ n fr (ks.foldl (P3 m) s) v
 |[],s,h,_,_=>⟨h,fun v hv=>hv⟩
 |k::ks,s,h,hm,hk=>by
  obtain ⟨h1,h2⟩:=hk k (by simp)
  have hg:=h.stepK hm.1 hm.2.1 hm.2.2.2 h1 h2 hm.2.2.1
  have hold:∀v,OkQ n fr s v->OkQ n fr (P3 m s k) v:=fun v hv=>⟨hv.1,hv.2.1,hv.2.2.1,b0p hv.2.2.2 (by have:=hm.1;omega) (by rw [h.len];exact h1)⟩
  obtain ⟨q1,q2⟩:=G7.stepKs (ks:=ks) hg (hold m hm) (fun k' hk'=>hk k' (by simp [hk']))
  exact ⟨q1,fun v hv=>q2 v (hold v hv)⟩
theorem G7.stepM {e:Ev} {bl:List Bool} {fr m:Int} {s:BQ} (h:G7 e.moves.length fr s) (hm:OkQ e.moves.length fr s m):
 G7 e.moves.length fr (a2B e bl s m)∧∀v,OkQ e.moves.length fr s v->OkQ e.moves.length fr (a2B e bl s m) v:=
 h.stepKs hm fun k hk=>by
  have:=a3r hm.1 hk
  exact ⟨this.2.1,this.2.2⟩
theorem G7.stepMs {e:Ev} {bl:List Bool} {fr:Int}:∀{ms:List Int} {s:BQ},G7 e.moves.length fr s->(∀ m ∈ ms,OkQ e.moves.length fr s m)->
 G7 e.moves.length fr (ms.foldl (a2B e bl) s)∧∀v,OkQ e.moves.length fr s v->OkQ e.moves.length fr (ms.foldl (a2B e bl) s) v
 |[],s,h,_=>⟨h,fun v hv=>hv⟩
 |m::ms,s,h,hm=>by
  obtain ⟨h1,h2⟩:=h.stepM (bl:=bl) (hm m (by simp))
  obtain ⟨q1,q2⟩:=G7.stepMs (ms:=ms) h1 (fun v hv=>h2 v (hm v (by simp [hv])))
  exact ⟨q1,fun v hv=>q2 v (h2 v hv)⟩
theorem G7.stepR {e:Ev} {bl:List Bool} {fr:Int} {s:BQ} (h:G7 e.moves.length fr s) (b:Nat):G7 e.moves.length fr (a4H e bl s b):=
 (h.stepMs (fun m hm=>h.que m (List.mem_of_mem_drop hm))).1
theorem aX8 {m k:Int} {s:BQ}:s.que.length<=(P3 m s k).que.length:=by
 unfold P3;split<;>simp
theorem a9f {m:Int}:∀{ks:List Int} {s:BQ},s.que.length<=(ks.foldl (P3 m) s).que.length
 |[],s=>lbQ _
 |k::ks,s=>lbR aX8 (a9f (ks:=ks))
theorem a8P {e:Ev} {bl:List Bool}:∀{ms:List Int} {s:BQ},s.que.length<=(ms.foldl (a2B e bl) s).que.length
 |[],s=>lbQ _
 |m::ms,s=>lbR (a9f (m:=m)) (a8P (ms:=ms))
theorem ai4 {e:Ev} {bl:List Bool} {t:Int} {f b:Nat} {s:BQ} (h:¬(b<s.que.length∧s.bef.getD t.toNat 0=-1)):a2j e bl t f s b=s:=by
 cases f with
 |zero=>rfl
 |succ f=>unfold a2j;rw [if_neg h]
theorem aP8 {e:Ev} {bl:List Bool} {t:Int} {f b:Nat} {s:BQ} (h:b<s.que.length∧s.bef.getD t.toNat 0=-1):a2j e bl t (f+1) s b=a2j e bl t f (a4H e bl s b) s.que.length:=by
 rw [a2j,if_pos h]
theorem ap3 {n:Nat} {fr:Int} {s:BQ} (h:G7 n fr s):∀(u f:Nat) (g:Nat),u<n->s.bef.getD u 0≠-1->u<f->u<g->I5 s.bef fr f (u:Int)=I5 s.bef fr g u:=by
 intro u
 induction u using Nat.strongRecOn with
 |_ u ih=>
  intro f g hu hb hf hg
  obtain ⟨f,rfl⟩:∃k,f=k+1:=⟨f - 1,by omega⟩
  obtain ⟨g,rfl⟩:∃k,g=k+1:=⟨g - 1,by omega⟩
  unfold I5
  by_cases hfr:(u:Int)=fr
  ·rw [if_pos hfr,if_pos hfr]
  ·rw [if_neg hfr,if_neg hfr]
   congr 1
   rcases h.bef u hu hb with h1|⟨h1,h2,h3,h4⟩
   ·exact absurd h1.1 hfr
   ·obtain ⟨w,hw⟩:=Int.eq_ofNat_of_zero_le h1
    have e1:s.bef.getD (u:Int).toNat 0=(w:Int):=hw
    rw [e1]
    rw [hw] at h2 h3
    exact ih w (by omega) f g (by omega) (by simpa using h3) (by omega) (by omega)
theorem G7.ge {n:Nat} {fr:Int} {s:BQ} (h:G7 n fr s):∀(u:Nat),u<n->s.bef.getD u 0≠-1->fr<=(u:Int):=by
 intro u
 induction u using Nat.strongRecOn with
 |_ u ih=>
  intro hu hb
  rcases h.bef u hu hb with h1|⟨h1,h2,h3,h4⟩
  ·omega
  ·obtain ⟨w,hw⟩:=Int.eq_ofNat_of_zero_le h1
   rw [hw] at h2 h3
   have:=ih w (by omega) (by omega) (by simpa using h3)
   omega
theorem b3g {e:Ev} {m:t4} (h:R9 e m=true):m.src≠m.dst:=by
 simp [R9] at h;exact h.1.1.1.1.1.2
theorem a1Z {e:Ev} {m:Int} {bl:List Bool}:a0m e m bl=true↔(0<=m∧m<e.moves.length)∧(bl.length:Int)=e.moves.length:=by simp [a0m]
theorem bi7 (a:Int):a48 .and .u64 a 4294967295 (a % 4294967296):=(a7r (a:=a) 32 (by decide)).symm
theorem bi0 {a:Int} (h1:0<=a) (h2:a<4294967296):aI3 .u64 a 32 0:=by
 show 0=a.fdiv 4294967296
 rw [Int.fdiv_eq_ediv_of_nonneg _ (by decide)]
 omega
theorem b83 (y:Int) (h0:0<=y) (h1:y<=1000000):b9 Tryz.prog 315 [b7 .u64 1,b7 .u64 y] [] (.tup [b7 .u64 0,b7 .u64 y]) []:=by
 (refine ac Tryz.func315 ?_;(conv=>whnf);repeat (refine zy ?_;conv=>whnf))
 repeat' (first|refine zx ?_|refine ⟨_,bi7 _,?_⟩|refine ⟨_,a3f (by omega) (by omega),?_⟩|refine ⟨by decide,_,bi0 (by omega) (by omega),?_⟩|refine zd ?_ ?_<;>intro h<;>try omega|fail)<;>conv=>whnf
 exact s7 ⟨e8 (by omega),e8 (by omega),trivial⟩
theorem bh6 (y:Int) (h0:0<=y) (h1:y<=1000000):b9 Tryz.prog 267 [b7 .u64 1,b7 .u64 y] [] (.tup [b7 .u64 0,b7 .u64 y]) []:=by
 (refine ac Tryz.func267 ?_;(conv=>whnf);repeat (refine zy ?_;conv=>whnf))
 repeat' (first|refine zx ?_|refine qp (b83 _ (by omega) (by omega)) ?_|refine ⟨_,a3f (by omega) (by omega),?_⟩|refine zd ?_ ?_<;>intro h<;>try omega|fail)<;>conv=>whnf
 exact s7 ⟨rfl,rfl,trivial⟩
def a1e (x:Int) (n k:Nat):List Int:=List.replicate k x++List.replicate (n - k) 0
theorem b3u {x:Int} {n k:Nat} (h:k<=n):(a1e x n k).length=n:=by simp [a1e];omega
theorem aV7 {x:Int} {n k:Nat} (h:k<=n):C9 k (n - k) (toC ((a1e x n k).map g9)) ((toC ((a1e x n k).map g9)).take k)=toC ((a1e x n (k+min k (n - k))).map g9):=by
 have e1:(toC ((a1e x n k).map g9)).take k=toC ((List.replicate k x).map g9):=by
  unfold a1e toC
  simp [lbC,List.take_append]
 have e2:(toC ((a1e x n k).map g9)).drop (k+min k (n - k))=toC ((List.replicate (n - (k+min k (n - k))) 0).map g9):=by
  unfold a1e toC
  simp only [lbC,List.drop_append,List.map_replicate,List.drop_replicate,List.length_replicate]
  rw [show k - (k+min k (n - k))=0 by omega,show k+min k (n - k) - k=min k (n - k) by omega,show n - k - min k (n - k)=n - (k+min k (n - k)) by omega]
  simp
 unfold C9
 rw [e1]
 have e3:((toC ((List.replicate k x).map g9)).take (n - k))=toC ((List.replicate (min k (n - k)) x).map g9):=by
  simp [toC,Nat.min_comm]
 rw [e3]
 have e4:(toC ((List.replicate (min k (n - k)) x).map g9)).length=min k (n - k):=by simp [toC]
 rw [e4,e2]
 unfold a1e toC
 simp only [lbC,List.map_replicate]
 rw [← lbD]
 congr 1
 rw [List.replicate_append_replicate]
theorem aL7 {x:Int} {n:Nat} (h:1<=n):C9 0 n (List.replicate n [C.t (ti 0)]) (toC [[ti x]])=toC ((a1e x n 1).map g9):=by
 obtain ⟨m,rfl⟩:∃m,n=m+1:=⟨n - 1,by omega⟩
 unfold C9 a1e toC
 simp [g9,List.replicate_succ]
theorem b47 (x n:Int) (h0:1<=n) (h1:n<=1000000):b9 Tryz.prog 196 [.c (.t (.sl 1 .full [[ti x]])),b7 .i64 n] [] (Z7 0 (List.replicate n.toNat x)) [t8 (List.replicate n.toNat x)]:=by
 (refine ac Tryz.func196 ?_;(conv=>whnf);repeat (refine zy ?_;conv=>whnf))
 repeat' (first|refine zx ?_|refine qp (bh6 _ (by omega) (by omega)) ?_|refine ⟨1,a3f (x:=1) (by decide) (by decide),?_⟩|refine ⟨_,a3f (by omega) (by omega),?_⟩|refine a4e (by omega) (by omega) (by omega) (by decide) ?_|refine zd ?_ ?_<;>intro h<;>try omega|fail)<;>conv=>whnf
 refine b1W (by simp [I1]) ?_
 conv=>whnf
 obtain ⟨N,rfl⟩:∃N:Nat,n=N:=Int.eq_ofNat_of_zero_le (by omega)
 refine w5 g6 (fun k:Nat=>(Jn 7++[S.c (C.own 0 0 N true),b7 .i64 k]++Jn 39,[t8 (a1e x N k)])) (fun k=>1<=k∧k<=N) (fun k=>N - k) 1 [some 0] ⟨by omega,by omega⟩
  ⟨rfl,rfl,⟨b8 rfl rfl rfl ?_ rfl,trivial⟩,⟨⟨rfl,rfl,rfl,fun h=>h⟩,e8 ?_,trivial⟩⟩ ?_
 ·exact aL7 (x:=x) (n:=N) (by omega)
 ·simp [toC];omega
 rintro k ⟨hk1,hk2⟩
 have hl:=b3u (x:=x) hk2
 conv=>whnf
 repeat' (first|refine zx ?_|refine qp (toC,hl) ?_|refine qp 0 ?_|refine qp (toC,hl) ?_|refine aM4 (by omega) (by omega) (by omega) ?_|refine b1W (by simp [toC,hl]<;>omega) ?_|refine bl0 [0] ?_|refine ⟨((k+min k (N - k):Nat):Int),L0 (by simp [toC,hl];omega) (by omega) (by omega),?_⟩|refine zd ?_ ?_<;>intro h<;>try omega|fail)<;>conv=>whnf
 ·refine ⟨[some 0],k+min k (N - k),⟨rfl,rfl,⟨b8 rfl rfl rfl ?_ rfl,trivial⟩,⟨⟨rfl,rfl,rfl,fun h=>h⟩,rfl,trivial⟩⟩,⟨by omega,by omega⟩,?_⟩
  ·have:=aV7 (x:=x) hk2
   refine Eq.trans ?_ this
   show C9 (0+(k:Int).toNat) ((N:Int) - k).toNat _ (((toC ((a1e x N k).map g9)).drop (0+(0:Int).toNat)).take ((k:Int) - 0).toNat)=_
   rw [show 0+(k:Int).toNat=k by omega,show ((N:Int) - k).toNat=N - k by omega,show 0+(0:Int).toNat=0 by omega,show ((k:Int) - 0).toNat=k by omega,List.drop_zero]
  ·show N - (k+min k (N - k))<N - k
   omega
 ·have hkN:k=N:=by omega
  subst hkN
  have e:a1e x k k=List.replicate k x:=by simp [a1e]
  refine ⟨⟨[some 0],rfl,rfl,⟨b8 rfl rfl rfl rfl ?_,trivial⟩,⟨rfl,rfl,by simp,fun h=>h⟩⟩⟩
  rw [e];rfl
def a1d (l:List Int) (k:Nat):List Int:=(List.range l.length).map fun p=>if p<k∨l.length - 1 - p<k then l.getD (l.length - 1 - p) 0 else l.getD p 0
theorem a0v {l:List Int} {k:Nat}:(a1d l k).length=l.length:=by simp [a1d]
theorem a1G {l:List Int} {k p:Nat} (h:p<l.length):(a1d l k)[p]? =some (if p<k∨l.length - 1 - p<k then l.getD (l.length - 1 - p) 0 else l.getD p 0):=by
 unfold a1d
 rw [lba,lbh h];rfl
theorem b0L {l:List Int}:a1d l 0=l:=by
 apply List.ext_getElem?
 intro p
 by_cases h:p<l.length
 ·rw [a1G h,if_neg (by omega),lbl,lbf h];rfl
 ·rw [lbd (by rw [a0v];omega),lbd (by omega)]
theorem b3H {l:List Int} {k:Nat} (h:l.length<=2*k+1):a1d l k=l.reverse:=by
 apply List.ext_getElem?
 intro p
 by_cases hp:p<l.length
 ·rw [a1G hp,List.getElem?_reverse hp]
  by_cases hc:p<k∨l.length - 1 - p<k
  ·rw [if_pos hc,lbl,lbf (by omega)];rfl
  ·rw [if_neg hc,lbl,show l.length - 1 - p=p by omega,lbf hp];rfl
 ·rw [lbd (by rw [a0v];omega),lbd (by simp;omega)]
theorem aW1 {l:List Int} {k:Nat} {a b:Int} (h:2*k+1<l.length) (ha:(a1d l k)[k]? =some a) (hb:(a1d l k)[l.length - 1 - k]? =some b):((a1d l k).set k b).set (l.length - 1 - k) a=a1d l (k+1):=by
 apply List.ext_getElem?
 intro p
 by_cases hp:p<l.length
 ·rw [a1G (by omega),if_neg (by omega)] at ha
  rw [a1G (by omega),if_neg (by omega)] at hb
  injection ha with ha
  injection hb with hb
  rw [a1G hp]
  by_cases h1:p=l.length - 1 - k
  ·subst h1
   rw [List.getElem?_set_self (by simp [a0v];omega),if_pos (by omega),←ha]
   congr 2;omega
  ·rw [List.getElem?_set_ne (by omega)]
   by_cases h2:p=k
   ·subst h2
    rw [List.getElem?_set_self (by rw [a0v];omega),if_pos (by omega),←hb]
   ·rw [List.getElem?_set_ne (by omega),a1G hp]
    have:(p<k∨l.length - 1 - p<k)↔(p<k+1∨l.length - 1 - p<k+1):=by omega
    simp only [this]
 ·rw [lbd (by simp [a0v];omega),lbd (by rw [a0v];omega)]
theorem b3c (l:List Int) (h1:l.length<=1000000):b9 Tryz.prog 198 [Z7 0 l] [t8 l] (.tup []) [t8 l.reverse]:=by
 (refine ac Tryz.func198 ?_;(conv=>whnf);repeat (refine zy ?_;conv=>whnf))
 repeat' (first|refine zx ?_|refine zd ?_ ?_<;>intro h<;>try omega|fail)<;>conv=>whnf
 refine w5 g6 (fun k:Nat=>([S.c (C.own 0 0 l.length true),J,b7 .i64 k,b7 .i64 ((l.length:Int) - 1 - k)]++Jn 24,[t8 (a1d l k)])) (fun k=>2*k<=l.length) (fun k=>l.length - k) 0 [some 0] (by omega)
  ⟨rfl,rfl,⟨b8 rfl rfl rfl ?_ rfl,trivial⟩,⟨⟨rfl,rfl,rfl,fun h=>h⟩,e8 rfl,e8 (by omega),trivial⟩⟩ ?_
 ·rw [b0L]
 intro k hk
 have hl:=a0v (l:=l) (k:=k)
 conv=>whnf
 repeat' (first|refine zx ?_|refine zd ?_ ?_<;>intro h<;>try omega|fail)<;>conv=>whnf
 ·obtain ⟨a,ha⟩:∃a,(a1d l k)[0+(k:Int).toNat]? =some a:=⟨_,lbf (by omega)⟩
  obtain ⟨b,hb⟩:∃a,(a1d l k)[0+((l.length:Int) - 1 - k).toNat]? =some a:=⟨_,lbf (by omega)⟩
  repeat' (first|refine zx ?_|refine qp (2,3) ?_|refine q9 ha ?_|refine q9 hb ?_|refine a23 (by omega) hb ?_|refine bl0 [2,3] ?_|refine zd ?_ ?_<;>intro h<;>try omega|fail)<;>conv=>whnf
  refine ⟨[some 0],k+1,⟨rfl,rfl,⟨b8 rfl rfl rfl ?_ rfl,trivial⟩,⟨⟨rfl,rfl,rfl,fun h=>h⟩,rfl,e8 (by omega),trivial⟩⟩,by omega,by omega⟩
  have ha':(a1d l k)[k]? =some a:=by rw [← ha];congr 1;omega
  have hb':(a1d l k)[l.length - 1 - k]? =some b:=by rw [← hb];congr 1;omega
  have e:=aW1 (by omega) ha' hb'
  show ((toC ((a1d l k).map g9)).set (0+(k:Int).toNat) [C.t (ti b)]).set (0+((l.length:Int) - 1 - k).toNat) [C.t (ti a)]=_
  rw [show 0+(k:Int).toNat=k by omega,show 0+((l.length:Int) - 1 - k).toNat=l.length - 1 - k by omega,←e]
  simp [toC,g9,List.map_set]
 ·refine ⟨⟨[some 0],rfl,rfl,⟨b8 rfl rfl rfl rfl ?_,trivial⟩,trivial⟩⟩
  rw [b3H (by omega)]
end Go.Proofs.YtikokmdpigploaaGreat
