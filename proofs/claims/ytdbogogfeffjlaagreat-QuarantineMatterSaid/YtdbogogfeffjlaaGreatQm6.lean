/- Part 6. -/
import Derived.Test.YtdbogogfeffjlaaGreatQm5
namespace Go.Proofs.YtdbogogfeffjlaaGreat
set_option linter.unusedVariables false
set_option linter.unusedSimpArgs false
set_option maxRecDepth 100000
open Go.RowKit
open St1 St2 St3 St4 St5 St6 St7 St8 StA StB
theorem Z9 {H:Hp} {id len:Nat} {n:Int} {rows:List B1} {rs:List (List C)} {f:Fr} {v:Rat} (hf:f=fz v) (hs:H[2]? =some (a21 n id len)) (hid:H[id]? =some { mode:=.live,elem:=143,size:=6,rows:=rs,box:=false })
 (hlen:len=rows.length) (hrs:rs=toC (rows.map w5)) (hne:id≠2) (hr:rows.length<=1000000) (mv:Nat) (kind:Int):
 a9 Tryz.prog 128 [a7 .i64 mv,a7 .i64 kind,frS f,.c (.ptr 2 0 0)] H (.tup []) (((H.set 2 (a21 n H.length (rows.length+1))).set id (b07 143 6))++[J2 (rows++[n6 mv kind v])]):=by
 subst hf;subst hlen;subst hrs;exact b7X hs hid hne hr mv kind v
theorem a8J {t:e7} {kind:Int} {k:Nat} (hk:k<=200) (hf:t.finds.length<=20) (hc:t.cleans.length<=50):(n8 t kind k).length<=14400:=by
 have h1:=O7 (t:=t) (kind:=kind) k
 have h2:=Nat.mul_le_mul hk (show 2+t.finds.length+t.cleans.length<=72 by omega)
 omega
abbrev ao7 (t:e7) (kind:Int) (i:Nat):Blk:={ mode:=.live,elem:=119,size:=7,rows:=[(Q2 t kind i).map .t],box:=true }
theorem Q1 {ρ:List (Option Nat)} {H:Hp}:∀rows:List (List T),a39 ρ H (rows.map (·.map C.t)) (rows.map (·.map C.t))
 |[]=>trivial
 |r::rs=>⟨K7 r,Q1 rs⟩
abbrev a69:FuncId:=128
abbrev a0P:Blk:={ mode:=.live,elem:=70,size:=2,rows:=[[.t (ti 0),.t (M3 [])]],box:=true }
theorem b0A {P:Program} {f:FuncId} {args:List S} {H H1 H':Hp} {r s:S} (h:a9 P f args H r H1) (hf:Fin H.length r H1 s H'):a9 P f args H s H':=by
 refine ⟨h.1,fun w ι M vals hl hr hH hM hF=>?_⟩
 refine Calls.mono (h.2 w ι M vals hl hr hH hM hF) ?_
 rintro e w' ⟨v,rfl,ι',M',h4,hH',hM',hF',hst⟩
 obtain ⟨ρ,f1,f2,f3,f4⟩:=hf
 obtain ⟨g1,g2,g3⟩:=a2Z.all f1 f2 f3 rfl hM hH' hst
 exact ⟨v,rfl,M7 ρ ι',_,f4.rs hH' h4,g1,fun b hb=>hM' b hb.1,g2,g3⟩
set_option maxHeartbeats 4000000 in
theorem b1o (t:e7) (kind:Int) (hs:t.Sized) (h1:¬(o9 t≠0∨kind<0∨8<=kind)):a9 Tryz.prog 60 [trS t,a7 .i64 kind] [] (.tup [.agg [.t (ti t.ev.moves.length),.own 0 0 (N6 t kind).rows.length true],a7 .i64 0]) [J2 (N6 t kind).rows]:=by
 have ck:=a67 t hs
 have m2:(t.ev.moves.map p6.row).length=t.ev.moves.length:=by simp
 obtain ⟨k1,k2,k3⟩:o9 t=0∧0<=kind∧kind<8:=by omega
 rw [k1] at ck
 obtain ⟨q1,q2,q3,q4,q5⟩:=p8 k1
 obtain ⟨b1,b2,b3,b4⟩:=Q5 q1
 have kn:=aV2 t kind hs q1 (fun f hf=>by have:=A0 q4 f hf;omega) (fun c hc=>a3x q5 c hc)
 (refine ac Tryz.func60 ?_;(conv=>whnf);repeat ((first|refine b0x ?_|refine zy ?_);conv=>whnf))
 repeat' (first|refine zz ?_|refine qp ck ?_|refine qp kn ?_|refine zd ?_ ?_<;>intro h<;>try omega|refine zy ?_|fail)<;>conv=>whnf
 all_goals try omega
 refine d6 c8 (fun k=>([J,J,J,J,S.c (C.ptr 0 0 0),J,S.c (C.ptr 1 0 0),S.c (C.ptr 2 0 0),S.c (C.fn (Fn.func a69) [C.ptr 2 0 0]),J,J,J,J,J,J,J,J,J,J,J,J,J,J,J,J,J,J,J,J,J,J,J,J,J,S.c (C.t (a1d t kind)),a7 .i64 t.ev.moves.length,a7 .i64 k,J,J,J,J,J,J,J,J,J,J,J,J,J,J,J,J,J,J,J,J,J,J,J,J,J,J,J,J,J,J,J,J,J,J,J,J,J,J,J,J,J,J,J,J,J,J,J],[a0P,evB t.ev,a21 t.ev.moves.length 3 (n8 t kind k).length,J2 (n8 t kind k)])) t.ev.moves.length (fun _=>True) [some 0,some 1,some 2,none] trivial ?_ ?_
 ·refine ⟨rfl,rfl,⟨⟨rfl,rfl,rfl,.inr ⟨⟨rfl,rfl,trivial⟩,trivial⟩⟩,⟨rfl,rfl,rfl,.inl ⟨rfl,j4 _⟩⟩,⟨rfl,rfl,rfl,.inr ⟨⟨?_,⟨rfl,rfl,rfl⟩,trivial⟩,trivial⟩⟩,⟨rfl,rfl⟩,trivial⟩,⟨⟨rfl,rfl,rfl⟩,⟨rfl,rfl,rfl⟩,⟨rfl,rfl,rfl⟩,⟨rfl,⟨rfl,rfl,rfl⟩,trivial⟩,rfl,c6 (by simp),rfl,trivial⟩⟩
  exact a8k (by rw [m2])
 intro k hk _
 by_cases hlt:k<t.ev.moves.length
 ·obtain ⟨x,hx⟩:∃x,t.ev.moves[k]? =some x:=⟨_,lg0 hlt⟩
  have bn:=b6K t.ev q1 hx
  have st:=b5u t.ev q1 hx
  have gk:(List.range t.ev.moves.length)[k]? =some k:=List.getElem?_range hlt
  have iv:X6 t.ev k=C3 t.ev x:=a5S hx
  have rl0:=a8J (t:=t) (kind:=kind) (k:=k) (by omega) q2 q3
  have gl:(g7 t.finds kind k).length<=20:=by unfold g7;rw [List.length_map];exact Nat.le_trans (List.length_filter_le _ _) q2
  have cl:j1 t.cleans kind k<=50:=Nat.le_trans (List.length_filter_le _ _) q3
  have i0:=G7 0 (by decide) (by decide)
  obtain ⟨R1,hR1⟩:∃R1:List B1,R1=n8 t kind k++(if m9 t.ev x.src=0 then [] else [s9 t.ev k x])++L4 (C3 t.ev x) k:=⟨_,rfl⟩
  have l5:(n8 t kind k).length+1=(n8 t kind k++[s9 t.ev k x]).length:=by simp
  have r5:List.take (n8 t kind k).length (toC ((n8 t kind k).map w5))++toC [w5 (s9 t.ev k x)]=toC ((n8 t kind k++[s9 t.ev k x]).map w5):=a0F rfl
  have b5:(n8 t kind k++[s9 t.ev k x]).length<=1000000:=by simp;omega
  have b3:(n8 t kind k).length<=1000000:=by omega
  obtain ⟨G,hG⟩:∃G:Nat->List B1,∀j,G j=R1++((g7 t.finds kind k).take j).map (fun g:Int=>n6 k 0 (g:Rat)):=⟨_,fun _=>rfl⟩
  obtain ⟨K,hK⟩:∃K:Nat->List B1,∀j,K j=(R1++(g7 t.finds kind k).map (fun g:Int=>n6 k 0 (g:Rat)))++List.replicate j (n6 k 2 ((0:Int):Rat)):=⟨_,fun _=>rfl⟩
  have hG0:G 0=R1:=by rw [hG];simp
  have hK0:K 0=R1++(g7 t.finds kind k).map (fun g:Int=>n6 k 0 (g:Rat)):=by rw [hK];simp
  have hKe:n8 t kind (k+1)=K (j1 t.cleans kind k):=by
   rw [hK,hR1]
   show (match t.ev.moves[k]? with|none=>n8 t kind k|some x=>n8 t kind k++K5 t kind k x)=_
   rw [hx]
   unfold K5
   simp [List.append_assoc]
  have hKs:toC ((K (j1 t.cleans kind k)).map w5)=toC ((n8 t kind (k+1)).map w5)∧(K (j1 t.cleans kind k)).length=(n8 t kind (k+1)).length:=by rw [hKe];exact ⟨rfl,rfl⟩
  have hgr:∀g ∈ g7 t.finds kind k,1<=g∧g<=1099511627776:=fun g hg=>by
   unfold g7 at hg
   obtain ⟨f,hf,rfl⟩:=List.mem_map.1 hg
   have:=A0 q4 f (List.mem_filter.1 hf).1
   omega
  have hcr:L4 (C3 t.ev x) k=if (C3 t.ev x).isSome then [n6 k 1 (hiR (C3 t.ev x))] else []:=by cases C3 t.ev x<;>rfl
  cases hc:(C3 t.ev x).isSome<;>cases hb:decide (m9 t.ev x.src=0)<;>rw [hb] at bn
  ·have hci:(X6 t.ev k).isSome=false:=by rw [iv];exact hc
   rw [hc] at hcr
   have hcr:L4 (C3 t.ev x) k=[]:=hcr
   have eR:R1=n8 t kind k++[s9 t.ev k x]:=by rw [hR1,hcr];simp only [decide_eq_false_iff_not,decide_eq_true_eq] at hb;simp [hb,List.append_assoc]
   have hRl:R1.length<=14500:=by rw [eR];(try simp);omega
   conv=>whnf
   repeat' (first|refine zz ?_|refine qp bn ?_|refine qp st ?_|refine qp toC ?_|refine qp toC ?_|refine b8 gk ?_|refine o7 (by simp [toC]) (by simp [toC];omega) ?_|refine zd ?_ ?_<;>intro h<;>try omega|refine zy ?_|fail)<;>conv=>whnf
   all_goals try omega
   all_goals try (rw [hci] at h;exact absurd h (by decide))
   refine d6 c8 (fun j=>([J,J,J,J,S.c (C.ptr 0 0 0),J,S.c (C.ptr 1 0 0),S.c (C.ptr 2 0 0),S.c (C.fn (Fn.func a69) [C.ptr 2 0 0]),a7 .i64 k,S.c (C.ptr 4 0 0),J,J,J,J,J,J,J,J,J,J,J,J,J,J,J,J,J,J,J,J,J,J,J,S.c (C.t (a1d t kind)),a7 .i64 t.ev.moves.length,a7 .i64 k,J,J,J,J,J,J,J,J,J,J,J,J,J,J,J,J,J,J,J,J,J,J,J,J,S.c (C.t (F8 (g7 t.finds kind k))),a7 .i64 (g7 t.finds kind k).length,a7 .i64 j,J,J,J,J,J,J,J,J,J,J,J,J,J,J,J,J,J,J,J,J],[a0P,evB t.ev,a21 t.ev.moves.length 3 (G j).length,J2 (G j),ao7 t kind k])) (g7 t.finds kind k).length (fun _=>True) [some 0,some 1,some 2,some 5,some 4] trivial ⟨rfl,rfl,⟨⟨rfl,rfl,rfl,.inr ⟨⟨rfl,rfl,trivial⟩,trivial⟩⟩,⟨rfl,rfl,rfl,.inl ⟨rfl,j4 _⟩⟩,⟨rfl,rfl,rfl,.inr ⟨⟨rfl,⟨rfl,rfl,?_,fun h=>h⟩,trivial⟩,trivial⟩⟩,a8 rfl rfl rfl ?_ rfl,⟨rfl,rfl,rfl,.inr (Q1 [Q2 t kind k])⟩,trivial⟩,⟨⟨rfl,rfl,rfl⟩,⟨rfl,rfl,rfl⟩,⟨rfl,rfl,rfl⟩,⟨rfl,⟨rfl,rfl,rfl⟩,trivial⟩,rfl,⟨rfl,rfl,rfl⟩,rfl,rfl,rfl,rfl,c6 (by simp),rfl,trivial⟩⟩ ?_
   ·simp [hG0,eR,toC]
   ·rw [hG0,eR];exact r5
   intro j hj _
   have hGl:(G j).length<=1000000:=by rw [hG];simp [List.length_append];omega
   by_cases hjt:j<(g7 t.finds kind k).length
   ·obtain ⟨g,hg⟩:∃g,(g7 t.finds kind k)[j]? =some g:=⟨_,lg0 hjt⟩
    have gb:=hgr g (lg2 hg)
    have ig:=G7 g (by omega) (by omega)
    have eG:G (j+1)=G j++[n6 k 0 (g:Rat)]:=by rw [hG,hG,List.take_add_one,hg];simp
    conv=>whnf
    repeat' (first|refine zz ?_|refine qp ig ?_|refine b8 hg ?_|refine .inr ⟨_,_,Z9 (id:=3) rfl rfl rfl rfl rfl (by decide) hGl _ _,?_⟩|refine zd ?_ ?_<;>intro h<;>try omega|refine zy ?_|fail)<;>conv=>whnf
    all_goals try omega
    refine ⟨hjt,trivial,[some 0,some 1,some 2,some 5,some 4],rfl,rfl,⟨⟨rfl,rfl,rfl,.inr ⟨⟨rfl,rfl,trivial⟩,trivial⟩⟩,⟨rfl,rfl,rfl,.inl ⟨rfl,j4 _⟩⟩,⟨rfl,rfl,rfl,.inr ⟨⟨rfl,⟨rfl,rfl,?_,fun h=>h⟩,trivial⟩,trivial⟩⟩,a8 rfl rfl rfl ?_ rfl,⟨rfl,rfl,rfl,.inr (Q1 [Q2 t kind k])⟩,trivial⟩,⟨⟨rfl,rfl,rfl⟩,⟨rfl,rfl,rfl⟩,⟨rfl,rfl,rfl⟩,⟨rfl,⟨rfl,rfl,rfl⟩,trivial⟩,rfl,⟨rfl,rfl,rfl⟩,rfl,rfl,rfl,rfl,rfl,rfl,trivial⟩⟩
    ·rw [eG];simp
    ·rw [eG]
   have hje:j=(g7 t.finds kind k).length:=by omega
   subst hje
   have hGe:G (g7 t.finds kind k).length=R1++(g7 t.finds kind k).map (fun g:Int=>n6 k 0 (g:Rat)):=by rw [hG,lg4 (Nat.le_refl _)]
   conv=>whnf
   repeat' (first|refine zz ?_|refine zd ?_ ?_<;>intro h<;>try omega|refine zy ?_|fail)<;>conv=>whnf
   all_goals try omega
   refine d6 c8 (fun j=>([J,J,J,J,S.c (C.ptr 0 0 0),J,S.c (C.ptr 1 0 0),S.c (C.ptr 2 0 0),S.c (C.fn (Fn.func a69) [C.ptr 2 0 0]),a7 .i64 k,J,J,J,J,J,J,J,J,J,J,J,J,J,J,J,J,J,J,J,J,J,J,J,J,S.c (C.t (a1d t kind)),a7 .i64 t.ev.moves.length,a7 .i64 k,J,J,J,J,J,J,J,J,J,J,J,J,J,J,J,J,J,J,J,J,J,J,J,J,J,J,J,J,J,J,J,J,J,J,J,J,J,a7 .i64 (j1 t.cleans kind k),a7 .i64 j,J,J,J,J,J,J,J,J],[a0P,evB t.ev,a21 t.ev.moves.length 3 (K j).length,J2 (K j)])) (j1 t.cleans kind k) (fun _=>True) [some 0,some 1,some 2,some 3] trivial ⟨rfl,rfl,⟨⟨rfl,rfl,rfl,.inr ⟨⟨rfl,rfl,trivial⟩,trivial⟩⟩,⟨rfl,rfl,rfl,.inl ⟨rfl,j4 _⟩⟩,⟨rfl,rfl,rfl,.inr ⟨⟨rfl,⟨rfl,rfl,?_,fun h=>h⟩,trivial⟩,trivial⟩⟩,a8 rfl rfl rfl ?_ rfl,trivial⟩,⟨⟨rfl,rfl,rfl⟩,⟨rfl,rfl,rfl⟩,⟨rfl,rfl,rfl⟩,⟨rfl,⟨rfl,rfl,rfl⟩,trivial⟩,rfl,rfl,rfl,rfl,rfl,rfl,trivial⟩⟩ ?_
   ·rw [hK0,hGe]
   ·rw [hK0,hGe]
   clear hj hjt
   intro j hj _
   have hKl:(K j).length<=1000000:=by rw [hK];simp [List.length_append];omega
   by_cases hjt:j<j1 t.cleans kind k
   ·have eK:K (j+1)=K j++[n6 k 2 ((0:Int):Rat)]:=by rw [hK,hK,List.replicate_succ'];simp
    conv=>whnf
    repeat' (first|refine zz ?_|refine qp i0 ?_|refine .inr ⟨_,_,Z9 (id:=3) rfl rfl rfl rfl rfl (by decide) hKl _ _,?_⟩|refine zd ?_ ?_<;>intro h<;>try omega|refine zy ?_|fail)<;>conv=>whnf
    all_goals try omega
    refine ⟨hjt,trivial,[some 0,some 1,some 2,some 4],rfl,rfl,⟨⟨rfl,rfl,rfl,.inr ⟨⟨rfl,rfl,trivial⟩,trivial⟩⟩,⟨rfl,rfl,rfl,.inl ⟨rfl,j4 _⟩⟩,⟨rfl,rfl,rfl,.inr ⟨⟨rfl,⟨rfl,rfl,?_,fun h=>h⟩,trivial⟩,trivial⟩⟩,a8 rfl rfl rfl ?_ rfl,trivial⟩,⟨⟨rfl,rfl,rfl⟩,⟨rfl,rfl,rfl⟩,⟨rfl,rfl,rfl⟩,⟨rfl,⟨rfl,rfl,rfl⟩,trivial⟩,rfl,rfl,rfl,rfl,rfl,rfl,trivial⟩⟩
    ·rw [eK];simp
    ·rw [eK]
   have hje:j=j1 t.cleans kind k:=by omega
   subst hje
   conv=>whnf
   repeat' (first|refine zz ?_|refine zd ?_ ?_<;>intro h<;>try omega|refine zy ?_|fail)<;>conv=>whnf
   all_goals try omega
   exact ⟨hlt,trivial,[some 0,some 1,some 2,some 3],rfl,rfl,⟨⟨rfl,rfl,rfl,.inr ⟨⟨rfl,rfl,trivial⟩,trivial⟩⟩,⟨rfl,rfl,rfl,.inl ⟨rfl,j4 _⟩⟩,⟨rfl,rfl,rfl,.inr ⟨⟨rfl,⟨rfl,rfl,hKs.2,fun h=>h⟩,trivial⟩,trivial⟩⟩,a8 rfl rfl rfl hKs.1 rfl,trivial⟩,⟨⟨rfl,rfl,rfl⟩,⟨rfl,rfl,rfl⟩,⟨rfl,rfl,rfl⟩,⟨rfl,⟨rfl,rfl,rfl⟩,trivial⟩,rfl,rfl,rfl,trivial⟩⟩
  ·have hci:(X6 t.ev k).isSome=false:=by rw [iv];exact hc
   rw [hc] at hcr
   have hcr:L4 (C3 t.ev x) k=[]:=hcr
   have eR:R1=n8 t kind k:=by rw [hR1,hcr];simp only [decide_eq_false_iff_not,decide_eq_true_eq] at hb;simp [hb,List.append_assoc]
   have hRl:R1.length<=14500:=by rw [eR];(try simp);omega
   conv=>whnf
   repeat' (first|refine zz ?_|refine qp bn ?_|refine qp st ?_|refine qp toC ?_|refine qp toC ?_|refine b8 gk ?_|refine o7 (by simp [toC]) (by simp [toC];omega) ?_|refine zd ?_ ?_<;>intro h<;>try omega|refine zy ?_|fail)<;>conv=>whnf
   all_goals try omega
   all_goals try (rw [hci] at h;exact absurd h (by decide))
   refine d6 c8 (fun j=>([J,J,J,J,S.c (C.ptr 0 0 0),J,S.c (C.ptr 1 0 0),S.c (C.ptr 2 0 0),S.c (C.fn (Fn.func a69) [C.ptr 2 0 0]),a7 .i64 k,S.c (C.ptr 4 0 0),J,J,J,J,J,J,J,J,J,J,J,J,J,J,J,J,J,J,J,J,J,J,J,S.c (C.t (a1d t kind)),a7 .i64 t.ev.moves.length,a7 .i64 k,J,J,J,J,J,J,J,J,J,J,J,J,J,J,J,J,J,J,J,J,J,J,J,J,S.c (C.t (F8 (g7 t.finds kind k))),a7 .i64 (g7 t.finds kind k).length,a7 .i64 j,J,J,J,J,J,J,J,J,J,J,J,J,J,J,J,J,J,J,J,J],[a0P,evB t.ev,a21 t.ev.moves.length 3 (G j).length,J2 (G j),ao7 t kind k])) (g7 t.finds kind k).length (fun _=>True) [some 0,some 1,some 2,some 3,some 4] trivial ⟨rfl,rfl,⟨⟨rfl,rfl,rfl,.inr ⟨⟨rfl,rfl,trivial⟩,trivial⟩⟩,⟨rfl,rfl,rfl,.inl ⟨rfl,j4 _⟩⟩,⟨rfl,rfl,rfl,.inr ⟨⟨rfl,⟨rfl,rfl,?_,fun h=>h⟩,trivial⟩,trivial⟩⟩,a8 rfl rfl rfl ?_ rfl,⟨rfl,rfl,rfl,.inr (Q1 [Q2 t kind k])⟩,trivial⟩,⟨⟨rfl,rfl,rfl⟩,⟨rfl,rfl,rfl⟩,⟨rfl,rfl,rfl⟩,⟨rfl,⟨rfl,rfl,rfl⟩,trivial⟩,rfl,⟨rfl,rfl,rfl⟩,rfl,rfl,rfl,rfl,c6 (by simp),rfl,trivial⟩⟩ ?_
   ·simp [hG0,eR,toC]
   ·rw [hG0,eR]<;>rfl
   intro j hj _
   have hGl:(G j).length<=1000000:=by rw [hG];simp [List.length_append];omega
   by_cases hjt:j<(g7 t.finds kind k).length
   ·obtain ⟨g,hg⟩:∃g,(g7 t.finds kind k)[j]? =some g:=⟨_,lg0 hjt⟩
    have gb:=hgr g (lg2 hg)
    have ig:=G7 g (by omega) (by omega)
    have eG:G (j+1)=G j++[n6 k 0 (g:Rat)]:=by rw [hG,hG,List.take_add_one,hg];simp
    conv=>whnf
    repeat' (first|refine zz ?_|refine qp ig ?_|refine b8 hg ?_|refine .inr ⟨_,_,Z9 (id:=3) rfl rfl rfl rfl rfl (by decide) hGl _ _,?_⟩|refine zd ?_ ?_<;>intro h<;>try omega|refine zy ?_|fail)<;>conv=>whnf
    all_goals try omega
    refine ⟨hjt,trivial,[some 0,some 1,some 2,some 5,some 4],rfl,rfl,⟨⟨rfl,rfl,rfl,.inr ⟨⟨rfl,rfl,trivial⟩,trivial⟩⟩,⟨rfl,rfl,rfl,.inl ⟨rfl,j4 _⟩⟩,⟨rfl,rfl,rfl,.inr ⟨⟨rfl,⟨rfl,rfl,?_,fun h=>h⟩,trivial⟩,trivial⟩⟩,a8 rfl rfl rfl ?_ rfl,⟨rfl,rfl,rfl,.inr (Q1 [Q2 t kind k])⟩,trivial⟩,⟨⟨rfl,rfl,rfl⟩,⟨rfl,rfl,rfl⟩,⟨rfl,rfl,rfl⟩,⟨rfl,⟨rfl,rfl,rfl⟩,trivial⟩,rfl,⟨rfl,rfl,rfl⟩,rfl,rfl,rfl,rfl,rfl,rfl,trivial⟩⟩
    ·rw [eG];simp
    ·rw [eG]
   have hje:j=(g7 t.finds kind k).length:=by omega
   subst hje
   have hGe:G (g7 t.finds kind k).length=R1++(g7 t.finds kind k).map (fun g:Int=>n6 k 0 (g:Rat)):=by rw [hG,lg4 (Nat.le_refl _)]
   conv=>whnf
   repeat' (first|refine zz ?_|refine zd ?_ ?_<;>intro h<;>try omega|refine zy ?_|fail)<;>conv=>whnf
   all_goals try omega
   refine d6 c8 (fun j=>([J,J,J,J,S.c (C.ptr 0 0 0),J,S.c (C.ptr 1 0 0),S.c (C.ptr 2 0 0),S.c (C.fn (Fn.func a69) [C.ptr 2 0 0]),a7 .i64 k,J,J,J,J,J,J,J,J,J,J,J,J,J,J,J,J,J,J,J,J,J,J,J,J,S.c (C.t (a1d t kind)),a7 .i64 t.ev.moves.length,a7 .i64 k,J,J,J,J,J,J,J,J,J,J,J,J,J,J,J,J,J,J,J,J,J,J,J,J,J,J,J,J,J,J,J,J,J,J,J,J,J,a7 .i64 (j1 t.cleans kind k),a7 .i64 j,J,J,J,J,J,J,J,J],[a0P,evB t.ev,a21 t.ev.moves.length 3 (K j).length,J2 (K j)])) (j1 t.cleans kind k) (fun _=>True) [some 0,some 1,some 2,some 3] trivial ⟨rfl,rfl,⟨⟨rfl,rfl,rfl,.inr ⟨⟨rfl,rfl,trivial⟩,trivial⟩⟩,⟨rfl,rfl,rfl,.inl ⟨rfl,j4 _⟩⟩,⟨rfl,rfl,rfl,.inr ⟨⟨rfl,⟨rfl,rfl,?_,fun h=>h⟩,trivial⟩,trivial⟩⟩,a8 rfl rfl rfl ?_ rfl,trivial⟩,⟨⟨rfl,rfl,rfl⟩,⟨rfl,rfl,rfl⟩,⟨rfl,rfl,rfl⟩,⟨rfl,⟨rfl,rfl,rfl⟩,trivial⟩,rfl,rfl,rfl,rfl,rfl,rfl,trivial⟩⟩ ?_
   ·rw [hK0,hGe]
   ·rw [hK0,hGe]
   clear hj hjt
   intro j hj _
   have hKl:(K j).length<=1000000:=by rw [hK];simp [List.length_append];omega
   by_cases hjt:j<j1 t.cleans kind k
   ·have eK:K (j+1)=K j++[n6 k 2 ((0:Int):Rat)]:=by rw [hK,hK,List.replicate_succ'];simp
    conv=>whnf
    repeat' (first|refine zz ?_|refine qp i0 ?_|refine .inr ⟨_,_,Z9 (id:=3) rfl rfl rfl rfl rfl (by decide) hKl _ _,?_⟩|refine zd ?_ ?_<;>intro h<;>try omega|refine zy ?_|fail)<;>conv=>whnf
    all_goals try omega
    refine ⟨hjt,trivial,[some 0,some 1,some 2,some 4],rfl,rfl,⟨⟨rfl,rfl,rfl,.inr ⟨⟨rfl,rfl,trivial⟩,trivial⟩⟩,⟨rfl,rfl,rfl,.inl ⟨rfl,j4 _⟩⟩,⟨rfl,rfl,rfl,.inr ⟨⟨rfl,⟨rfl,rfl,?_,fun h=>h⟩,trivial⟩,trivial⟩⟩,a8 rfl rfl rfl ?_ rfl,trivial⟩,⟨⟨rfl,rfl,rfl⟩,⟨rfl,rfl,rfl⟩,⟨rfl,rfl,rfl⟩,⟨rfl,⟨rfl,rfl,rfl⟩,trivial⟩,rfl,rfl,rfl,rfl,rfl,rfl,trivial⟩⟩
    ·rw [eK];simp
    ·rw [eK]
   have hje:j=j1 t.cleans kind k:=by omega
   subst hje
   conv=>whnf
   repeat' (first|refine zz ?_|refine zd ?_ ?_<;>intro h<;>try omega|refine zy ?_|fail)<;>conv=>whnf
   all_goals try omega
   exact ⟨hlt,trivial,[some 0,some 1,some 2,some 3],rfl,rfl,⟨⟨rfl,rfl,rfl,.inr ⟨⟨rfl,rfl,trivial⟩,trivial⟩⟩,⟨rfl,rfl,rfl,.inl ⟨rfl,j4 _⟩⟩,⟨rfl,rfl,rfl,.inr ⟨⟨rfl,⟨rfl,rfl,hKs.2,fun h=>h⟩,trivial⟩,trivial⟩⟩,a8 rfl rfl rfl hKs.1 rfl,trivial⟩,⟨⟨rfl,rfl,rfl⟩,⟨rfl,rfl,rfl⟩,⟨rfl,rfl,rfl⟩,⟨rfl,⟨rfl,rfl,rfl⟩,trivial⟩,rfl,rfl,rfl,trivial⟩⟩
  ·have hci:(X6 t.ev k).isSome=true:=by rw [iv];exact hc
   rw [hc] at hcr
   have hcr:L4 (C3 t.ev x) k=[n6 k 1 (hiR (C3 t.ev x))]:=hcr
   have eR:R1=(n8 t kind k++[s9 t.ev k x])++[n6 k 1 (hiR (C3 t.ev x))]:=by rw [hR1,hcr];simp only [decide_eq_false_iff_not,decide_eq_true_eq] at hb;simp [hb,List.append_assoc]
   have hRl:R1.length<=14500:=by rw [eR];(try simp);omega
   have hfv:hiF (X6 t.ev k)=fz (hiR (C3 t.ev x)):=by rw [iv];exact (a5R hc).1
   conv=>whnf
   repeat' (first|refine zz ?_|refine qp bn ?_|refine qp st ?_|refine qp toC ?_|refine qp toC ?_|refine b8 gk ?_|refine o7 (by simp [toC]) (by simp [toC];omega) ?_|refine .inr ⟨_,_,Z9 (id:=5) hfv rfl rfl l5 r5 (by decide) b5 _ _,?_⟩|refine zd ?_ ?_<;>intro h<;>try omega|refine zy ?_|fail)<;>conv=>whnf
   all_goals try omega
   all_goals try (rw [hci] at h;exact absurd h (by decide))
   refine d6 c8 (fun j=>([J,J,J,J,S.c (C.ptr 0 0 0),J,S.c (C.ptr 1 0 0),S.c (C.ptr 2 0 0),S.c (C.fn (Fn.func a69) [C.ptr 2 0 0]),a7 .i64 k,S.c (C.ptr 4 0 0),J,J,J,J,J,J,J,J,J,J,J,J,J,J,J,J,J,J,J,J,J,J,J,S.c (C.t (a1d t kind)),a7 .i64 t.ev.moves.length,a7 .i64 k,J,J,J,J,J,J,J,J,J,J,J,J,J,J,J,J,J,J,J,J,J,J,J,J,S.c (C.t (F8 (g7 t.finds kind k))),a7 .i64 (g7 t.finds kind k).length,a7 .i64 j,J,J,J,J,J,J,J,J,J,J,J,J,J,J,J,J,J,J,J,J],[a0P,evB t.ev,a21 t.ev.moves.length 3 (G j).length,J2 (G j),ao7 t kind k])) (g7 t.finds kind k).length (fun _=>True) [some 0,some 1,some 2,some 6,some 4] trivial ⟨rfl,rfl,⟨⟨rfl,rfl,rfl,.inr ⟨⟨rfl,rfl,trivial⟩,trivial⟩⟩,⟨rfl,rfl,rfl,.inl ⟨rfl,j4 _⟩⟩,⟨rfl,rfl,rfl,.inr ⟨⟨rfl,⟨rfl,rfl,?_,fun h=>h⟩,trivial⟩,trivial⟩⟩,a8 rfl rfl rfl ?_ rfl,⟨rfl,rfl,rfl,.inr (Q1 [Q2 t kind k])⟩,trivial⟩,⟨⟨rfl,rfl,rfl⟩,⟨rfl,rfl,rfl⟩,⟨rfl,rfl,rfl⟩,⟨rfl,⟨rfl,rfl,rfl⟩,trivial⟩,rfl,⟨rfl,rfl,rfl⟩,rfl,rfl,rfl,rfl,c6 (by simp),rfl,trivial⟩⟩ ?_
   ·simp [hG0,eR,toC]
   ·rw [hG0,eR]<;>rfl
   intro j hj _
   have hGl:(G j).length<=1000000:=by rw [hG];simp [List.length_append];omega
   by_cases hjt:j<(g7 t.finds kind k).length
   ·obtain ⟨g,hg⟩:∃g,(g7 t.finds kind k)[j]? =some g:=⟨_,lg0 hjt⟩
    have gb:=hgr g (lg2 hg)
    have ig:=G7 g (by omega) (by omega)
    have eG:G (j+1)=G j++[n6 k 0 (g:Rat)]:=by rw [hG,hG,List.take_add_one,hg];simp
    conv=>whnf
    repeat' (first|refine zz ?_|refine qp ig ?_|refine b8 hg ?_|refine .inr ⟨_,_,Z9 (id:=3) rfl rfl rfl rfl rfl (by decide) hGl _ _,?_⟩|refine zd ?_ ?_<;>intro h<;>try omega|refine zy ?_|fail)<;>conv=>whnf
    all_goals try omega
    refine ⟨hjt,trivial,[some 0,some 1,some 2,some 5,some 4],rfl,rfl,⟨⟨rfl,rfl,rfl,.inr ⟨⟨rfl,rfl,trivial⟩,trivial⟩⟩,⟨rfl,rfl,rfl,.inl ⟨rfl,j4 _⟩⟩,⟨rfl,rfl,rfl,.inr ⟨⟨rfl,⟨rfl,rfl,?_,fun h=>h⟩,trivial⟩,trivial⟩⟩,a8 rfl rfl rfl ?_ rfl,⟨rfl,rfl,rfl,.inr (Q1 [Q2 t kind k])⟩,trivial⟩,⟨⟨rfl,rfl,rfl⟩,⟨rfl,rfl,rfl⟩,⟨rfl,rfl,rfl⟩,⟨rfl,⟨rfl,rfl,rfl⟩,trivial⟩,rfl,⟨rfl,rfl,rfl⟩,rfl,rfl,rfl,rfl,rfl,rfl,trivial⟩⟩
    ·rw [eG];simp
    ·rw [eG]
   have hje:j=(g7 t.finds kind k).length:=by omega
   subst hje
   have hGe:G (g7 t.finds kind k).length=R1++(g7 t.finds kind k).map (fun g:Int=>n6 k 0 (g:Rat)):=by rw [hG,lg4 (Nat.le_refl _)]
   conv=>whnf
   repeat' (first|refine zz ?_|refine zd ?_ ?_<;>intro h<;>try omega|refine zy ?_|fail)<;>conv=>whnf
   all_goals try omega
   refine d6 c8 (fun j=>([J,J,J,J,S.c (C.ptr 0 0 0),J,S.c (C.ptr 1 0 0),S.c (C.ptr 2 0 0),S.c (C.fn (Fn.func a69) [C.ptr 2 0 0]),a7 .i64 k,J,J,J,J,J,J,J,J,J,J,J,J,J,J,J,J,J,J,J,J,J,J,J,J,S.c (C.t (a1d t kind)),a7 .i64 t.ev.moves.length,a7 .i64 k,J,J,J,J,J,J,J,J,J,J,J,J,J,J,J,J,J,J,J,J,J,J,J,J,J,J,J,J,J,J,J,J,J,J,J,J,J,a7 .i64 (j1 t.cleans kind k),a7 .i64 j,J,J,J,J,J,J,J,J],[a0P,evB t.ev,a21 t.ev.moves.length 3 (K j).length,J2 (K j)])) (j1 t.cleans kind k) (fun _=>True) [some 0,some 1,some 2,some 3] trivial ⟨rfl,rfl,⟨⟨rfl,rfl,rfl,.inr ⟨⟨rfl,rfl,trivial⟩,trivial⟩⟩,⟨rfl,rfl,rfl,.inl ⟨rfl,j4 _⟩⟩,⟨rfl,rfl,rfl,.inr ⟨⟨rfl,⟨rfl,rfl,?_,fun h=>h⟩,trivial⟩,trivial⟩⟩,a8 rfl rfl rfl ?_ rfl,trivial⟩,⟨⟨rfl,rfl,rfl⟩,⟨rfl,rfl,rfl⟩,⟨rfl,rfl,rfl⟩,⟨rfl,⟨rfl,rfl,rfl⟩,trivial⟩,rfl,rfl,rfl,rfl,rfl,rfl,trivial⟩⟩ ?_
   ·rw [hK0,hGe]
   ·rw [hK0,hGe]
   clear hj hjt
   intro j hj _
   have hKl:(K j).length<=1000000:=by rw [hK];simp [List.length_append];omega
   by_cases hjt:j<j1 t.cleans kind k
   ·have eK:K (j+1)=K j++[n6 k 2 ((0:Int):Rat)]:=by rw [hK,hK,List.replicate_succ'];simp
    conv=>whnf
    repeat' (first|refine zz ?_|refine qp i0 ?_|refine .inr ⟨_,_,Z9 (id:=3) rfl rfl rfl rfl rfl (by decide) hKl _ _,?_⟩|refine zd ?_ ?_<;>intro h<;>try omega|refine zy ?_|fail)<;>conv=>whnf
    all_goals try omega
    refine ⟨hjt,trivial,[some 0,some 1,some 2,some 4],rfl,rfl,⟨⟨rfl,rfl,rfl,.inr ⟨⟨rfl,rfl,trivial⟩,trivial⟩⟩,⟨rfl,rfl,rfl,.inl ⟨rfl,j4 _⟩⟩,⟨rfl,rfl,rfl,.inr ⟨⟨rfl,⟨rfl,rfl,?_,fun h=>h⟩,trivial⟩,trivial⟩⟩,a8 rfl rfl rfl ?_ rfl,trivial⟩,⟨⟨rfl,rfl,rfl⟩,⟨rfl,rfl,rfl⟩,⟨rfl,rfl,rfl⟩,⟨rfl,⟨rfl,rfl,rfl⟩,trivial⟩,rfl,rfl,rfl,rfl,rfl,rfl,trivial⟩⟩
    ·rw [eK];simp
    ·rw [eK]
   have hje:j=j1 t.cleans kind k:=by omega
   subst hje
   conv=>whnf
   repeat' (first|refine zz ?_|refine zd ?_ ?_<;>intro h<;>try omega|refine zy ?_|fail)<;>conv=>whnf
   all_goals try omega
   exact ⟨hlt,trivial,[some 0,some 1,some 2,some 3],rfl,rfl,⟨⟨rfl,rfl,rfl,.inr ⟨⟨rfl,rfl,trivial⟩,trivial⟩⟩,⟨rfl,rfl,rfl,.inl ⟨rfl,j4 _⟩⟩,⟨rfl,rfl,rfl,.inr ⟨⟨rfl,⟨rfl,rfl,hKs.2,fun h=>h⟩,trivial⟩,trivial⟩⟩,a8 rfl rfl rfl hKs.1 rfl,trivial⟩,⟨⟨rfl,rfl,rfl⟩,⟨rfl,rfl,rfl⟩,⟨rfl,rfl,rfl⟩,⟨rfl,⟨rfl,rfl,rfl⟩,trivial⟩,rfl,rfl,rfl,trivial⟩⟩
  ·have hci:(X6 t.ev k).isSome=true:=by rw [iv];exact hc
   rw [hc] at hcr
   have hcr:L4 (C3 t.ev x) k=[n6 k 1 (hiR (C3 t.ev x))]:=hcr
   have eR:R1=n8 t kind k++[n6 k 1 (hiR (C3 t.ev x))]:=by rw [hR1,hcr];simp only [decide_eq_false_iff_not,decide_eq_true_eq] at hb;simp [hb,List.append_assoc]
   have hRl:R1.length<=14500:=by rw [eR];(try simp);omega
   have hfv:hiF (X6 t.ev k)=fz (hiR (C3 t.ev x)):=by rw [iv];exact (a5R hc).1
   conv=>whnf
   repeat' (first|refine zz ?_|refine qp bn ?_|refine qp st ?_|refine qp toC ?_|refine qp toC ?_|refine b8 gk ?_|refine o7 (by simp [toC]) (by simp [toC];omega) ?_|refine .inr ⟨_,_,Z9 (id:=3) hfv rfl rfl rfl rfl (by decide) b3 _ _,?_⟩|refine zd ?_ ?_<;>intro h<;>try omega|refine zy ?_|fail)<;>conv=>whnf
   all_goals try omega
   all_goals try (rw [hci] at h;exact absurd h (by decide))
   refine d6 c8 (fun j=>([J,J,J,J,S.c (C.ptr 0 0 0),J,S.c (C.ptr 1 0 0),S.c (C.ptr 2 0 0),S.c (C.fn (Fn.func a69) [C.ptr 2 0 0]),a7 .i64 k,S.c (C.ptr 4 0 0),J,J,J,J,J,J,J,J,J,J,J,J,J,J,J,J,J,J,J,J,J,J,J,S.c (C.t (a1d t kind)),a7 .i64 t.ev.moves.length,a7 .i64 k,J,J,J,J,J,J,J,J,J,J,J,J,J,J,J,J,J,J,J,J,J,J,J,J,S.c (C.t (F8 (g7 t.finds kind k))),a7 .i64 (g7 t.finds kind k).length,a7 .i64 j,J,J,J,J,J,J,J,J,J,J,J,J,J,J,J,J,J,J,J,J],[a0P,evB t.ev,a21 t.ev.moves.length 3 (G j).length,J2 (G j),ao7 t kind k])) (g7 t.finds kind k).length (fun _=>True) [some 0,some 1,some 2,some 5,some 4] trivial ⟨rfl,rfl,⟨⟨rfl,rfl,rfl,.inr ⟨⟨rfl,rfl,trivial⟩,trivial⟩⟩,⟨rfl,rfl,rfl,.inl ⟨rfl,j4 _⟩⟩,⟨rfl,rfl,rfl,.inr ⟨⟨rfl,⟨rfl,rfl,?_,fun h=>h⟩,trivial⟩,trivial⟩⟩,a8 rfl rfl rfl ?_ rfl,⟨rfl,rfl,rfl,.inr (Q1 [Q2 t kind k])⟩,trivial⟩,⟨⟨rfl,rfl,rfl⟩,⟨rfl,rfl,rfl⟩,⟨rfl,rfl,rfl⟩,⟨rfl,⟨rfl,rfl,rfl⟩,trivial⟩,rfl,⟨rfl,rfl,rfl⟩,rfl,rfl,rfl,rfl,c6 (by simp),rfl,trivial⟩⟩ ?_
   ·simp [hG0,eR,toC]
   ·rw [hG0,eR]<;>rfl
   intro j hj _
   have hGl:(G j).length<=1000000:=by rw [hG];simp [List.length_append];omega
   by_cases hjt:j<(g7 t.finds kind k).length
   ·obtain ⟨g,hg⟩:∃g,(g7 t.finds kind k)[j]? =some g:=⟨_,lg0 hjt⟩
    have gb:=hgr g (lg2 hg)
    have ig:=G7 g (by omega) (by omega)
    have eG:G (j+1)=G j++[n6 k 0 (g:Rat)]:=by rw [hG,hG,List.take_add_one,hg];simp
    conv=>whnf
    repeat' (first|refine zz ?_|refine qp ig ?_|refine b8 hg ?_|refine .inr ⟨_,_,Z9 (id:=3) rfl rfl rfl rfl rfl (by decide) hGl _ _,?_⟩|refine zd ?_ ?_<;>intro h<;>try omega|refine zy ?_|fail)<;>conv=>whnf
    all_goals try omega
    refine ⟨hjt,trivial,[some 0,some 1,some 2,some 5,some 4],rfl,rfl,⟨⟨rfl,rfl,rfl,.inr ⟨⟨rfl,rfl,trivial⟩,trivial⟩⟩,⟨rfl,rfl,rfl,.inl ⟨rfl,j4 _⟩⟩,⟨rfl,rfl,rfl,.inr ⟨⟨rfl,⟨rfl,rfl,?_,fun h=>h⟩,trivial⟩,trivial⟩⟩,a8 rfl rfl rfl ?_ rfl,⟨rfl,rfl,rfl,.inr (Q1 [Q2 t kind k])⟩,trivial⟩,⟨⟨rfl,rfl,rfl⟩,⟨rfl,rfl,rfl⟩,⟨rfl,rfl,rfl⟩,⟨rfl,⟨rfl,rfl,rfl⟩,trivial⟩,rfl,⟨rfl,rfl,rfl⟩,rfl,rfl,rfl,rfl,rfl,rfl,trivial⟩⟩
    ·rw [eG];simp
    ·rw [eG]
   have hje:j=(g7 t.finds kind k).length:=by omega
   subst hje
   have hGe:G (g7 t.finds kind k).length=R1++(g7 t.finds kind k).map (fun g:Int=>n6 k 0 (g:Rat)):=by rw [hG,lg4 (Nat.le_refl _)]
   conv=>whnf
   repeat' (first|refine zz ?_|refine zd ?_ ?_<;>intro h<;>try omega|refine zy ?_|fail)<;>conv=>whnf
   all_goals try omega
   refine d6 c8 (fun j=>([J,J,J,J,S.c (C.ptr 0 0 0),J,S.c (C.ptr 1 0 0),S.c (C.ptr 2 0 0),S.c (C.fn (Fn.func a69) [C.ptr 2 0 0]),a7 .i64 k,J,J,J,J,J,J,J,J,J,J,J,J,J,J,J,J,J,J,J,J,J,J,J,J,S.c (C.t (a1d t kind)),a7 .i64 t.ev.moves.length,a7 .i64 k,J,J,J,J,J,J,J,J,J,J,J,J,J,J,J,J,J,J,J,J,J,J,J,J,J,J,J,J,J,J,J,J,J,J,J,J,J,a7 .i64 (j1 t.cleans kind k),a7 .i64 j,J,J,J,J,J,J,J,J],[a0P,evB t.ev,a21 t.ev.moves.length 3 (K j).length,J2 (K j)])) (j1 t.cleans kind k) (fun _=>True) [some 0,some 1,some 2,some 3] trivial ⟨rfl,rfl,⟨⟨rfl,rfl,rfl,.inr ⟨⟨rfl,rfl,trivial⟩,trivial⟩⟩,⟨rfl,rfl,rfl,.inl ⟨rfl,j4 _⟩⟩,⟨rfl,rfl,rfl,.inr ⟨⟨rfl,⟨rfl,rfl,?_,fun h=>h⟩,trivial⟩,trivial⟩⟩,a8 rfl rfl rfl ?_ rfl,trivial⟩,⟨⟨rfl,rfl,rfl⟩,⟨rfl,rfl,rfl⟩,⟨rfl,rfl,rfl⟩,⟨rfl,⟨rfl,rfl,rfl⟩,trivial⟩,rfl,rfl,rfl,rfl,rfl,rfl,trivial⟩⟩ ?_
   ·rw [hK0,hGe]
   ·rw [hK0,hGe]
   clear hj hjt
   intro j hj _
   have hKl:(K j).length<=1000000:=by rw [hK];simp [List.length_append];omega
   by_cases hjt:j<j1 t.cleans kind k
   ·have eK:K (j+1)=K j++[n6 k 2 ((0:Int):Rat)]:=by rw [hK,hK,List.replicate_succ'];simp
    conv=>whnf
    repeat' (first|refine zz ?_|refine qp i0 ?_|refine .inr ⟨_,_,Z9 (id:=3) rfl rfl rfl rfl rfl (by decide) hKl _ _,?_⟩|refine zd ?_ ?_<;>intro h<;>try omega|refine zy ?_|fail)<;>conv=>whnf
    all_goals try omega
    refine ⟨hjt,trivial,[some 0,some 1,some 2,some 4],rfl,rfl,⟨⟨rfl,rfl,rfl,.inr ⟨⟨rfl,rfl,trivial⟩,trivial⟩⟩,⟨rfl,rfl,rfl,.inl ⟨rfl,j4 _⟩⟩,⟨rfl,rfl,rfl,.inr ⟨⟨rfl,⟨rfl,rfl,?_,fun h=>h⟩,trivial⟩,trivial⟩⟩,a8 rfl rfl rfl ?_ rfl,trivial⟩,⟨⟨rfl,rfl,rfl⟩,⟨rfl,rfl,rfl⟩,⟨rfl,rfl,rfl⟩,⟨rfl,⟨rfl,rfl,rfl⟩,trivial⟩,rfl,rfl,rfl,rfl,rfl,rfl,trivial⟩⟩
    ·rw [eK];simp
    ·rw [eK]
   have hje:j=j1 t.cleans kind k:=by omega
   subst hje
   conv=>whnf
   repeat' (first|refine zz ?_|refine zd ?_ ?_<;>intro h<;>try omega|refine zy ?_|fail)<;>conv=>whnf
   all_goals try omega
   exact ⟨hlt,trivial,[some 0,some 1,some 2,some 3],rfl,rfl,⟨⟨rfl,rfl,rfl,.inr ⟨⟨rfl,rfl,trivial⟩,trivial⟩⟩,⟨rfl,rfl,rfl,.inl ⟨rfl,j4 _⟩⟩,⟨rfl,rfl,rfl,.inr ⟨⟨rfl,⟨rfl,rfl,hKs.2,fun h=>h⟩,trivial⟩,trivial⟩⟩,a8 rfl rfl rfl hKs.1 rfl,trivial⟩,⟨⟨rfl,rfl,rfl⟩,⟨rfl,rfl,rfl⟩,⟨rfl,rfl,rfl⟩,⟨rfl,⟨rfl,rfl,rfl⟩,trivial⟩,rfl,rfl,rfl,trivial⟩⟩
 ·have hke:k=t.ev.moves.length:=by omega
  subst hke
  conv=>whnf
  repeat' (first|refine zz ?_|refine zd ?_ ?_<;>intro h<;>try omega|refine zy ?_|fail)<;>conv=>whnf
  all_goals try omega
  exact ⟨[some 3],rfl,rfl,⟨a8 (rows:=(n8 t kind t.ev.moves.length).map w5) rfl rfl rfl rfl rfl,trivial⟩,⟨⟨rfl,⟨rfl,rfl,rfl,fun h=>h⟩,trivial⟩,rfl,trivial⟩⟩
theorem y5 {α:Type} {f:α->List T} {l:List α} {x:α} {n:Nat} (h:n=l.length):List.take n (toC (l.map f))++toC [f x]=toC ((l++[x]).map f):=by
 rw [lg4 (by simp [toC,h])]
 simp [toC]
def V9 (l:List (Int × Rat)) (f:Rat):List (Int × Rat):=l.map fun t=>(t.1,t.2*f)
theorem a7L (l:List (Int × Rat)) (f:Rat) {k:Nat} {t:Int × Rat} (h:l[k]? =some t):(V9 l f).take (k+1)=(V9 l f).take k++[(t.1,t.2*f)]:=by
 rw [List.take_add_one]
 congr 1
 unfold V9
 rw [List.getElem?_map,h];rfl
theorem a19 (l:List (Int × Rat)) (f:Rat):(V9 l f).length=l.length:=by simp [V9]
set_option maxHeartbeats 2000000 in
theorem b4H (l:List (Int × Rat)) (f:Rat) (hf:f≠0) (hr:f8 (-1) 1500 l=true) (hb:∀t ∈ l,rl t.2<=200) (hfb:rl f<=200):
 a9 Tryz.prog 164 [n9 l,frS (fz f)] [] (n9 (V9 l f)) []:=by
 have hl:=A7 hr
 have m1:(l.map i9).length=l.length:=by simp
 have rt:=L5 l 1500 (by omega) hb
 rw [decide_eq_true (by omega),hr] at rt
 have sg:=a4y f (by omega)
 have sz:=a1X (x:=f)
 have hs0:sgR f≠0:=fun h=>hf (sz.1 h)
 (refine ac Tryz.func164 ?_;(conv=>whnf);repeat ((first|refine b0x ?_|refine zy ?_);conv=>whnf))
 repeat' (first|refine zz ?_|refine qp rt ?_|refine qp sg ?_|refine zd ?_ ?_<;>intro h<;>try omega|refine zy ?_|fail)<;>conv=>whnf
 all_goals try omega
 all_goals try (exfalso;simp_all;done)
 refine d6 c8 (fun k=>([J,J,J,S.c (C.t (T.ptr (j5 (fz f)))),J,S.c (C.own 0 0 k true),J,J,J,J,J,J,J,J,J,J,J,J,n9 l,a7 .i64 l.length,a7 .i64 k,J,J,J,J,J,J,J,J,J,J,J,J,J,J,J,J,J,J,J],[O8 ((V9 l f).take k)])) l.length (fun _=>True) [none] trivial
  ⟨rfl,rfl,⟨⟨rfl,rfl⟩,trivial⟩,⟨g9 rfl,⟨rfl,rfl,rfl⟩,g9 rfl,c6 (by omega),c6 rfl,trivial⟩⟩ ?_
 intro k hk _
 by_cases hlt:k<l.length
 ·obtain ⟨t,ht⟩:∃t,l[k]? =some t:=⟨_,lg0 hlt⟩
  have bt:=hb t (lg2 ht)
  have mu:=aa3 t.2 f (by omega) (by omega)
  have lk:((V9 l f).take k).length=k:=by rw [List.length_take,a19];omega
  have lA:k<=(O8 ((V9 l f).take k)).rows.length:=by show k<=(toC _).length;simp [toC,a19];omega
  conv=>whnf
  repeat' (first|refine zz ?_|refine qp mu ?_|refine qp toC ?_|refine qp 6 ?_|refine b8 ht ?_|refine o7 lA (by simp [toC];omega) ?_|refine bl0 [6] ?_|refine zd ?_ ?_<;>intro h<;>try omega|refine zy ?_|fail)<;>conv=>whnf
  all_goals first
   |omega
   |(refine ⟨hlt,trivial,[some 3],rfl,rfl,⟨a8 (rows:=((V9 l f).take (k+1)).map i9) rfl rfl rfl ?_ rfl,trivial⟩,⟨rfl,⟨rfl,rfl,rfl,fun h=>h⟩,rfl,rfl,c6 (by omega),trivial⟩⟩
     rw [a7L l f ht]
     exact y5 (f:=i9) (x:=(t.1,t.2*f)) lk.symm)
 ·have hke:k=l.length:=by omega
  subst hke
  conv=>whnf
  repeat' (first|refine zz ?_|refine zd ?_ ?_<;>intro h<;>try omega|refine zy ?_|fail)<;>conv=>whnf
  all_goals first
   |omega
   |exact Q3 rfl (fun h=>h) rfl (by rw [lg4 (by rw [a19];exact Nat.le_refl _)]) (by simp [a19])
theorem a1y {n n':Int} (h:n<=n'):∀{last:Int} {l:List (Int × Rat)},f8 last n l=true->f8 last n' l=true
 |_,[],_=>rfl
 |last,a::r,hr=>by
  unfold f8 at hr ⊢
  simp only [Bool.and_eq_true,decide_eq_true_eq] at hr ⊢
  exact ⟨⟨⟨hr.1.1.1,by omega⟩,hr.1.2⟩,a1y h hr.2⟩
def N9 (l:List (Int × Rat)):List (Int × Rat):=V9 l ((-1:Int):Rat)
theorem a71 (l:List Fr) (h0:0<l.length) (h1:l.length<=100000):a9 Tryz.prog 205 [j8 l] [] (.c (.own 0 0 l.length true)) [flB l]:=by
 have m1:(l.map j5).length=l.length:=by simp
 have hl:0<(l.map j5).length:=by omega
 (refine ac Tryz.func205 ?_;(conv=>whnf);repeat (refine zy ?_;conv=>whnf))
 repeat' (first|refine zz ?_|refine qp (toC,List.length_map,List.length_nil) ?_|refine qp (toC,List.length_map) ?_|refine ⟨hl,?_⟩|refine zz ?_|refine a6x rfl (by simp only [toC,List.length_map,List.length_nil];omega) ?_|refine o7 (Nat.zero_le _) (by simp only [toC,List.length_map];omega) ?_|refine zd ?_ ?_<;>intro h<;>try omega|refine zy ?_|fail)<;>conv=>whnf
 all_goals first
  |omega
  |exact ⟨[some 0],rfl,rfl,⟨a8 (rows:=l.map j5) rfl rfl rfl rfl rfl,trivial⟩,⟨rfl,rfl,by simp [toC],fun h=>h⟩⟩
def smF (a b:Nat->Rat) (k:Nat):Nat->Rat:=fun j=>if j<k then a j+b j else a j
theorem a5a {P:Program} {g:FuncId} {args:List S} {H:Hp} {b:Blk} {cs:List C} {s2:S} {j lo len:Nat} {app:Bool} (h:a9 P g args [] (.tup [.agg cs,s2]) [b]) (ha:args.all S.isT=true) (hm:b.mode=.live) (hb:G4 b.rows)
 (hf:aE4 (.tup [.agg cs,s2])=true) (hj:cs[j]? =some (.own 0 lo len app)):U1 P g args H (a6E [H.length] (.tup [.agg cs,s2])) [b]:=by
 refine ⟨h.1,fun w ι M vals hl hv hH hM hf0=>?_⟩
 have:=h.2 w (fun _=>none) M vals hl (fun j s hj=>(hv j s hj).tree (List.all_eq_true.1 ha s (lg2 hj)))
  ⟨by simp,by simp,by simp,by simp,by simp⟩ hM (fun _ _=>rfl)
 refine Calls.mono this ?_
 rintro e w' ⟨v,rfl,ι',M',h1,h2,h3,h4,h5⟩
 have hnl:∀x,¬a38 (fun _=>none) ([]:Hp) x:=by rintro x ⟨id,k,_,_,hk,_⟩;simp at hk
 obtain ⟨l,hl0⟩:∃l,ι' 0=some l:=by
  cases h1 with
  |tup vs hl hr=>
   have h0:=hr 0 _ rfl
   generalize vs.getD 0 undef=v0 at h0
   cases h0 with
   |agg us hl hr=>
    have h9:=hr j _ hj
    generalize us.getD j undef=v9 at h9
    cases h9 with
    |own hi=>exact ⟨_,hi⟩
    |nil hi=>exact ⟨_,hi⟩
 have hnew:w7 ι H.length [b].length (fun _=>l) H.length=some l:=by unfold w7;simp
 have hMM:∀x,a3R M [b].length (fun _=>l) x->M' x:=by
  intro x hx
  rcases hx with hx|⟨k,hk,cap,size,he⟩
  ·rcases h5.mold x hx with h|h
   ·exact h
   ·exact absurd h (hnl x)
  ·have he:l=.blk x cap size:=he
   subst he
   exact h2.liv 0 b rfl hm x cap size hl0
 refine ⟨v,rfl,fun _=>l,?_,⟨h5.os,h5.tape,h5.output,h5.size,fun x hx=>h5.keep x hx (hnl x)⟩,?_,?_,?_⟩
 ·refine RS.keep (w:=w') (ι:=w7 ι H.length [b].length (fun _=>l)) (M:=M') (fun _ _ _=>rfl) (fun x hx=>.inl (hMM x hx)) (fun _ _ h=>h) (RS.ren (σ:=[H.length]) (fun id l' hi=>?_) hf h1)
  rcases id with _|id
  ·rw [hl0] at hi;injection hi with hi;subst hi;exact hnew
  ·rw [h4 (id+1) (by simp)] at hi;cases hi
 ·intro k blk hk
  cases k with
  |succ k=>simp at hk
  |zero=>
   simp at hk
   subst hk
   refine ⟨hm,?_⟩
   have hbr:=h2.blk 0 b rfl (by rw [hm];intro h;cases h) l hl0
   cases l with
   |nil=>exact hbr
   |blk x cap size=>
    obtain ⟨r1,r2,r3,r4,r5,cur,r6,r7,r8⟩:=hbr
    refine ⟨r1,r2,r3,r4,r5,cur,r6,r7,fun i j c hc=>?_⟩
    obtain ⟨u,u1,u2⟩:=r8 i j c hc
    exact ⟨u,u1,a9s hMM hb hc u2⟩
 ·intro k x cap size hk he
  have he:l=.blk x cap size:=he
  subst he
  refine ⟨?_,h3 x (h2.liv 0 b rfl hm x cap size hl0)⟩
  rcases h5.live x ⟨0,b,cap,size,rfl,hm,hl0⟩ with h|h
  ·exact absurd h (hnl x)
  ·exact h
 ·intro k k' x cap size cap' size' hk hk' _ _
  simp at hk hk'
  omega
structure b7G where
 hh:Int
 state:Int
 w:List Rat
 wo:List Rat
 pr:List Rat
def b7G.row (v:b7G):List T:=[ti v.hh,ti v.state,B4 (v.w.map fz),B4 (v.wo.map fz),B4 (v.pr.map fz)]
theorem a3Z {x:Rat}:sgR x > 0↔0<x:=by unfold sgR;split<;>(try split)<;>simp_all<;>grind
theorem b2e {x:Rat}:sgR x<0↔x<0:=by unfold sgR;split<;>(try split)<;>simp_all
theorem b3h {s:f7} {g:List (Int × Rat)} {n B:Nat} (h:G8 s g n B):∀v ∈ x6 s g,rl v<=17000:=by
 intro v hv
 have hb:=aa6 h
 have hn:=h.nn
 have hB:=h.bb
 obtain ⟨j,hj,rfl⟩:=a4w hv
 have hp:X8 (e8 s).length s.n.toNat (v8 s g):=P4.p
 rw [hn] at hj hp ⊢
 rw [← aU0 hp hj]
 have key:∀k,k<=(e8 s).length->rl (ptK n (v8 s g).O (v8 s g).V (fun _=>0) k j)<=17000:=by
  intro k
  induction k with
  |zero=>intro _;have:=rl0;show rl 0<=_;omega
  |succ k ih=>
   intro hk
   rw [P3]
   simp only
   split
   ·have:=hb.v k (by omega);omega
   ·exact ih (by omega)
 exact key _ (Nat.le_refl _)
theorem b7v {s:f7} {g:List (Int × Rat)} {n B:Nat} (h:G8 s g n B) (hout:a0o s g=.best) (hS:∀k,rl (k7 (g.take k) (x6 s g))<=50000) (H:Hp):
 U1 Tryz.prog 130 [a2i s,n9 g] H (.tup [.agg (C.t (ti 0)::frC (fz (k7 g (x6 s g)))++[.t (B4 ((x6 s g).map fz)),.own H.length 0 s.rows.length true,.t (.sl 0 .nil [])]),a7 .i64 0]) [flB (rF s.rows.length (N8 s (v8 s g)))]:=
 a5a (j:=6) (lo:=0) (len:=s.rows.length) (app:=true) (au9 s g n B h hout (fun k=>by have:=hS k;omega) (fun v hv=>by have:=b3h h v hv;omega)) rfl rfl (c7 _) rfl rfl
theorem b66 {s:f7} {g:List (Int × Rat)} {n B B0 c:Nat} (h:G8 s g n B) (h0:G8 s [] n B0) (hout:a0o s g=.col c) (hout0:a0o s []=.best) (H:Hp):
 U1 Tryz.prog 130 [a2i s,n9 g] H (.tup [.agg (C.t (ti 2)::b8Z++[.t (B4 ((x6 s []).map fz)),.t (.sl 0 .nil []),.t (B4 ((a4O s g c).map fz))]),a7 .i64 0]) []:=
 x4 (av3 s g n B B0 c h h0 hout hout0) rfl rfl
structure b8r where
 mv:Int
 mat:Int
def b8r.row (p:b8r):List T:=[ti p.mv,ti p.mat]
theorem a5t (l:List Int) (hl:l.length<=1000000):a9 Tryz.prog 246 [d8 l] [] (d8 (E3 l)) []:=by
 have l2:(l.map d9).length=l.length:=by simp
 (refine ac Tryz.func246 ?_;(conv=>whnf);repeat (refine zy ?_;conv=>whnf))
 repeat' (first|refine zz ?_|refine zd ?_ ?_<;>intro h<;>try omega|refine zy ?_|fail)<;>conv=>whnf
 refine k8 c8 (σ:=Nat) (fun n=>([d8 l,J,J,a7 .i64 n,J,J,J,J,J,J,J,J,J,J,J,J,J,J,J,J,J,J,J],[])) (fun n=>n<=l.length∧∀j x,n<=j->l[j]? =some x->x=0) (fun n=>n) l.length []
  ⟨Nat.le_refl _,fun j x hj hx=>by rw [List.getElem?_eq_none hj] at hx;cases hx⟩ ⟨rfl,rfl,trivial,⟨g9 rfl,c6 (by simp),trivial⟩⟩ ?_
 rintro n ⟨hn,hz⟩
 have hn:n<=l.length:=hn
 conv=>whnf
 repeat' (first|refine zz ?_|refine qp toC ?_|refine qp toC ?_|refine a3n.own ?_|refine p4 (by omega) (a0M (by omega) hn) ?_|refine a3s (by omega) (by omega) (by omega) ?_|refine o7 (by simp [toC]) (by simp [toC];omega) ?_|refine zd ?_ ?_<;>intro h<;>try omega|refine zy ?_|fail)<;>conv=>whnf
 ·have h0:dat l (n - 1)=0:=by assumption
  have h1:0<n:=by omega
  refine ⟨[],n - 1,⟨rfl,rfl,trivial,⟨rfl,c6 (by omega),trivial⟩⟩,⟨by omega,fun j x hj hxj=>?_⟩,by show n - 1<n;omega⟩
  by_cases hj2:j=n - 1
  ·subst hj2;rw [s7 (by omega)] at hxj;injection hxj with hx;rw [← hx];exact h0
  ·exact hz j x (by omega) hxj
 all_goals
  have e:l.take n=E3 l:=a35 hz (fun x h0 hx=>by
   first
    |omega
    |(rw [s7 (by omega)] at hx;injection hx with hx;rw [← hx];assumption)) hn
  rw [← e]
  refine Q3 rfl (by intro h;cases h) rfl ?_ ?_
  ·simp [toC,C4,List.map_take]
  ·simp [toC]
theorem b7r (s:Int) (l:List Int) (hl:l.length<=1000000):a9 Tryz.prog 183 [a7 .i64 s,d8 l] [] (bgS (sgn s l)) []:=by
 (refine ac Tryz.func183 ?_;(conv=>whnf);repeat (refine zy ?_;conv=>whnf))
 repeat' (first|refine zz ?_|refine qp (a5t l hl) ?_|refine zd ?_ ?_<;>intro h<;>try omega|refine zy ?_|fail)<;>conv=>whnf
 ·have h0:(E3 l).length=0:=by simp at *;assumption
  unfold sgn
  rw [if_pos h0]
  exact k5 ⟨rfl,rfl,trivial⟩
 ·have h0:¬(E3 l).length=0:=by simp at *;assumption
  unfold sgn
  rw [if_neg h0]
  exact k5 ⟨rfl,rfl,trivial⟩
theorem G3 (s:Int) (k:Nat) (h:s=1∨s=-1∨k=0) (lk:(dg k).length<=700000):
 a9 Tryz.prog 183 [a7 .i64 s,d8 (dg k)] [] (bgS (bz (s*k))) []:=by
 have e:=b7r s (dg k) (by omega)
 rw [aK7 (o8 k) (by rw [k6];omega),k6] at e
 exact e
theorem a4J (l:List Int) (i:Nat) (hl:l.length<=1000000):a9 Tryz.prog 247 [d8 l,a7 .i64 i] [] (a7 .i64 (dat l i)) []:=by
 have l2:(l.map d9).length=l.length:=by simp
 (refine ac Tryz.func247 ?_;(conv=>whnf);repeat (refine zy ?_;conv=>whnf))
 repeat' (first|refine zz ?_|refine b8 (s7 (by omega)) ?_|refine zd ?_ ?_<;>intro h<;>try omega|refine zy ?_|fail)<;>conv=>whnf
 all_goals first
  |exact i6 rfl
  |exact i6 (M9 (by omega)).symm
theorem a4t (l:List Int) (i:Nat):val (l.drop i)=dat l i+1048576*val (l.drop (i+1)):=by
 by_cases h:i<l.length
 ·exact a5J h
 ·rw [List.drop_of_length_le (by omega),List.drop_of_length_le (by omega),M9 (by omega)];rfl
theorem a9d (l:List Int) (i:Nat):val l=val (l.take i)+pw i*val (l.drop i):=by
 by_cases h:i<=l.length
 ·exact a4F l i h
 ·rw [List.drop_of_length_le (by omega),lg4 (by omega)];simp [val]
theorem a5L {l:List Int} (h:Okd l) (i:Nat):0<=val (l.take i)∧val (l.take i)<pw i:=by
 refine ⟨t4 (h.take i),?_⟩
 have h1:=S9 (h.take i)
 have h2:=a0C (i:=(l.take i).length) (j:=i) (by simp;omega)
 omega
theorem aF4 {a b:List Int} (ha:Okd a) (hb:Okd b) {i:Nat} (h:val (a.drop (i+1))=val (b.drop (i+1))) (hd:dat a i<dat b i):val a<val b:=by
 rw [a9d a i,a9d b i,a4t a i,a4t b i,h]
 have h1:=a5L ha i
 have h2:=a5L hb i
 have hp:=N5 i
 have h3:=Int.mul_le_mul_of_nonneg_left (a:=dat a i+1048576*val (b.drop (i+1))+1) (b:=dat b i+1048576*val (b.drop (i+1))) (c:=pw i) (by omega) (by omega)
 rw [Int.mul_add _ _ (1:Int)] at h3
 omega
theorem a4R (l:List Int):val (l.drop 0)=val l:=by rw [List.drop_zero]
structure ad5 (a b:List Int) (i:Nat) (out:List Int) (c:Int):Prop where
 len:out.length=i
 ok:Okd out
 le:i<=a.length
 c0:0<=c
 c1:c<=1
 eq:val out - pw i*c=val (a.take i) - val (b.take i)
theorem ad5.init (a b:List Int):ad5 a b 0 [] 0:=⟨rfl,.nil,Nat.zero_le _,by decide,by decide,by simp [val]⟩
theorem ad5.step {a b out:List Int} {i:Nat} {c n c':Int} (h:ad5 a b i out c) (ha:Okd a) (hb:Okd b) (hi:i<a.length) (hn:n=dat a i - dat b i - c+1048576*c') (h0:0<=n∧n<1048576) (hc:0<=c'∧c'<=1):
 ad5 a b (i+1) (out++[n]) c':=by
 refine ⟨by simp [h.len],h.ok.append (Okd.cons h0 .nil),hi,hc.1,hc.2,?_⟩
 rw [I6,h.len,o6,o6,D7]
 have:=h.eq
 simp only [val]
 rw [hn]
 grind
theorem ad5.fin {a b out:List Int} {c:Int} (h:ad5 a b a.length out c) (ha:Okd a) (hb:Okd b) (hl:b.length<=a.length) (hv:val b<=val a):E3 out=dg (val a - val b).toNat:=by
 have h1:=h.eq
 rw [lg4 (Nat.le_refl _),lg4 hl] at h1
 have h2:=S9 h.ok
 rw [h.len] at h2
 have hc:c=0:=by
  have:=h.c0
  have:=h.c1
  rcases Int.lt_or_le 0 c with h3|h3
  ·have:c=1:=by omega
   subst this
   omega
  ·omega
 subst hc
 rw [H9 h.ok]
 congr 2
 simp at h1
 exact h1
structure b5t (a b:List Int) (i k:Nat) (out:List Int) (c:Int):Prop where
 out:(aa9 a b i k out c∧k<=b.length)∨(k=b.length+1∧c=0∧a3p a b (i+1) out)
theorem b6g {l:List Int} {i:Nat}:l.set i (dat l i)=l:=by
 by_cases h:i<l.length
 ·apply List.ext_getElem?
  intro j
  by_cases hj:i=j
  ·subst hj;rw [List.getElem?_set_self h];unfold dat;rw [lg3,lg0 h];rfl
  ·rw [List.getElem?_set_ne hj]
 ·rw [List.set_eq_of_length_le (by omega)]
theorem b5t.exit {a b out:List Int} {i k:Nat} {c:Int} (h:b5t a b i k out c) (ha:Okd a) (hb:Okd b) (hi:i<a.length) (hk:b.length<=k) (hc:c<=0):a3p a b (i+1) out:=by
 rcases h.out with ⟨h1,h2⟩|⟨h1,h2,h3⟩
 ·have hk:k=b.length:=by omega
  subst hk
  have hc:c=0:=by have:=h1.c0;omega
  subst hc
  have:=h1.done ha hb hi
  rw [Int.add_zero,b6g] at this
  exact this
 ·exact h3
theorem b4o {r d:Nat} {x:Int} (hx:0<=x∧x<1048576):E3 (x::dg r)=dg (r*1048576+x.toNat):=by
 rw [H9 (Okd.cons hx (o8 r))]
 congr 1
 simp only [val,k6]
 omega
theorem b2r (a b:List Int) (ha:Okd a) (hb:Okd b) (la:a.length<=1000000) (lb:b.length<=1000000):a9 Tryz.prog 186 [d8 a,d8 b] [] (f5 (decide (val a<val b))) []:=by
 have l1:(a.map d9).length=a.length:=by simp
 have l2:(b.map d9).length=b.length:=by simp
 (refine ac Tryz.func186 ?_;(conv=>whnf);repeat (refine zy ?_;conv=>whnf))
 repeat' (first|refine zz ?_|refine qp cond ?_|refine ⟨_,y9 (y:=((max a.length b.length:Nat):Int) - 1) (by simp only [cond];split<;>omega) (by omega) (by omega),?_⟩|refine zd ?_ ?_<;>intro h<;>try omega|refine zy ?_|fail)<;>conv=>whnf
 refine k8 c8 (σ:=Nat) (fun k=>([d8 a,d8 b,J,J,J,a7 .i64 ((k:Int) - 1),J,J,J,J,J,J,J,J,J,J,J,J,J,J,J,J,J,J,J,J,J,J,J,J],[])) (fun k=>k<=1000000∧val (a.drop k)=val (b.drop k)) (fun k=>k) (max a.length b.length) []
  ⟨by omega,by rw [List.drop_of_length_le (by omega),List.drop_of_length_le (by omega)]⟩ ⟨rfl,rfl,trivial,⟨g9 rfl,g9 rfl,rfl,trivial⟩⟩ ?_
 rintro k ⟨hk,hd⟩
 have hk:k<=1000000:=hk
 have hd:val (a.drop k)=val (b.drop k):=hd
 by_cases h0:0<k
 ·obtain ⟨i,rfl⟩:∃i,k=i+1:=⟨k - 1,by omega⟩
  have d1:=a4J a i la
  have d2:=a4J b i lb
  have ei:(((i+1:Nat):Int) - 1)=i:=by omega
  rw [ei]
  conv=>whnf
  repeat' (first|refine zz ?_|refine qp d1 ?_|refine qp d2 ?_|refine zd ?_ ?_<;>intro h<;>try omega|refine zy ?_|fail)<;>conv=>whnf
  ·have h:=aF4 ha hb hd (by assumption)
   exact b9 (by simp [h])
  ·have h:=aF4 hb ha hd.symm (by omega)
   exact b9 (by simp;omega)
  ·have he:dat a i=dat b i:=by omega
   refine ⟨[],i,⟨rfl,rfl,trivial,⟨rfl,rfl,rfl,trivial⟩⟩,⟨by omega,?_⟩,by show i<i+1;omega⟩
   rw [a4t a i,a4t b i,he,hd]
 ·obtain rfl:k=0:=by omega
  rw [a4R,a4R] at hd
  conv=>whnf
  repeat' (first|refine zz ?_|refine zd ?_ ?_<;>intro h<;>try omega|refine zy ?_|fail)<;>conv=>whnf
  all_goals first
   |omega
   |exact b9 (by simp;omega)
theorem aY3 (a b:List Int) (ha:Okd a) (hb:Okd b) (la:a.length<=400000) (lb:b.length<=a.length) (hv:val b<=val a):
 a9 Tryz.prog 187 [d8 a,d8 b] [] (d8 (dg (val a - val b).toNat)) []:=by
 have l1:(a.map d9).length=a.length:=by simp
 have l2:(b.map d9).length=b.length:=by simp
 (refine ac Tryz.func187 ?_;(conv=>whnf);repeat (refine zy ?_;conv=>whnf))
 repeat' (first|refine zz ?_|refine zd ?_ ?_<;>intro h<;>try omega|refine zy ?_|fail)<;>conv=>whnf
 refine k8 c8 (σ:=Nat × List Int × Int) (fun|(k,out,c)=>([d8 a,d8 b,J,J,J,a0m 0 out,a7 .i64 c,a7 .i64 k,J,J,J,J,J,J,J,J,J,J,J,J,J,J,J,J,J,J,J,J,J,J,J,J,J,J,J],[o4 out])) (fun x=>ad5 a b x.1 x.2.1 x.2.2) (fun x=>a.length - x.1) (0,[],0) [none]
  (ad5.init a b) ⟨rfl,rfl,⟨⟨rfl,rfl⟩,trivial⟩,⟨g9 rfl,g9 rfl,⟨rfl,rfl,rfl⟩,rfl,rfl,trivial⟩⟩ ?_
 rintro ⟨k,out,c⟩ hI
 have hI:ad5 a b k out c:=hI
 have hlen:=hI.len
 have hle:=hI.le
 have hc0:=hI.c0
 have hc1:=hI.c1
 have hda:=ha.dat k
 have hdb:=hb.dat k
 have d2:=a4J b k (by omega)
 conv=>whnf
 repeat' (first|refine zz ?_|refine qp d2 ?_|refine qp toC ?_|refine qp toC ?_|refine b8 (s7 (by omega)) ?_|refine o7 (by simp [toC]) (by simp [toC];omega) ?_|refine zd ?_ ?_<;>intro h<;>try omega|refine zy ?_|fail)<;>conv=>whnf
 ·have hst:=hI.step ha hb (n:=dat a k - dat b k - c+1048576) (c':=1) (by omega) (by omega) (by omega) (by omega)
  refine ⟨[some 1],(k+1,out++[dat a k - dat b k - c+1048576],1),⟨rfl,rfl,⟨a8 rfl rfl rfl a13 rfl,trivial⟩,⟨rfl,rfl,j9 rfl (by simp [toC]),rfl,c6 (by omega),trivial⟩⟩,hst,?_⟩
  show a.length - (k+1)<a.length - k
  omega
 ·have hst:=hI.step ha hb (n:=dat a k - dat b k - c) (c':=0) (by omega) (by omega) (by omega) (by omega)
  refine ⟨[some 1],(k+1,out++[dat a k - dat b k - c],0),⟨rfl,rfl,⟨a8 rfl rfl rfl a13 rfl,trivial⟩,⟨rfl,rfl,j9 rfl (by simp [toC]),rfl,c6 (by omega),trivial⟩⟩,hst,?_⟩
  show a.length - (k+1)<a.length - k
  omega
 ·have hk:k=a.length:=by omega
  subst hk
  have hf:=hI.fin ha hb lb hv
  have t:=a5t out (by omega)
  rw [hf] at t
  refine .inr ⟨_,_,u0 [0] t ⟨a0q (t5 (by simp) rfl (by intro h;cases h) rfl rfl (by simp)),trivial⟩ rfl,?_⟩
  conv=>whnf
  exact a9w rfl
theorem b6J {a:Int} (h:0<=a):a.tmod 1048576=a % 1048576:=Int.tmod_eq_emod_of_nonneg h
set_option maxHeartbeats 1000000 in
theorem aV0 (a b:List Int) (ha:Okd a) (hb:Okd b) (la:a.length<=400000) (lb:b.length<=400000):
 a9 Tryz.prog 184 [d8 a,d8 b] [] (d8 (dg (val a*val b).toNat)) []:=by
 have l1:(a.map d9).length=a.length:=by simp
 have l2:(b.map d9).length=b.length:=by simp
 (refine ac Tryz.func184 ?_;(conv=>whnf);repeat (refine zy ?_;conv=>whnf))
 repeat' (first|refine zz ?_|refine a2q (by omega) (by omega) (by omega) (by decide) ?_|refine zd ?_ ?_<;>intro h<;>try omega|refine zy ?_|fail)<;>conv=>whnf
 refine k8 c8 (σ:=Nat × List Int) (fun|(i,out)=>([d8 a,d8 b,J,J,J,a0m 0 out,a7 .i64 i,J,J,J,J,J,J,J,J,J,J,J,J,J,J,J,J,J,J,J,J,J,J,J,J,J,J,J,J,J,J,J,J,J,J,J,J,J,J,J,J,J,J,J,J,J,J,J,J,J,J,J,J,J],[o4 out])) (fun x=>a3p a b x.1 x.2) (fun x=>a.length - x.1) (0,List.replicate (a.length+b.length) 0) [some 0]
  (a3p.init a b) ⟨rfl,rfl,⟨a8 rfl rfl rfl ?_ rfl,trivial⟩,⟨g9 rfl,g9 rfl,j9 rfl (by simp;omega),rfl,trivial⟩⟩ ?_
 ·show List.replicate _ _=_
  rw [show ((((a.map d9).length:Nat):Int)+((b.map d9).length:Nat)).toNat=a.length+b.length by omega]
  simp [toC,d9,A9]
 rintro ⟨i,out⟩ hI
 have hI:a3p a b i out:=hI
 have hlen:=hI.len
 have hle:=hI.le
 conv=>whnf
 repeat' (first|refine zz ?_|refine zd ?_ ?_<;>intro h<;>try omega|refine zy ?_|fail)<;>conv=>whnf
 ·have hi:i<a.length:=by omega
  refine k8 c8 (σ:=Nat × List Int × Int) (fun|(k,out,c)=>([d8 a,d8 b,J,J,J,a0m 0 out,a7 .i64 i,a7 .i64 c,a7 .i64 k,J,J,J,J,J,J,J,J,J,J,J,J,J,J,J,J,J,J,J,J,J,J,J,J,J,J,J,J,J,J,J,J,J,J,J,J,J,J,J,J,J,J,J,J,J,J,J,J,J,J,J],[o4 out])) (fun x=>b5t a b i x.1 x.2.1 x.2.2) (fun x=>b.length+1 - x.1) (0,out,0) [some 0]
   ⟨.inl ⟨hI.start,Nat.zero_le _⟩⟩ ⟨rfl,rfl,⟨a8 rfl rfl rfl rfl rfl,trivial⟩,⟨g9 rfl,g9 rfl,j9 rfl rfl,rfl,rfl,rfl,trivial⟩⟩ ?_
  rintro ⟨k,out,c⟩ hT
  have hT:b5t a b i k out c:=hT
  have hdb:=hb.dat k
  have hda:=ha.dat i
  have hm:=a2G (ha.dat i) (hb.dat k)
  have d2:=a4J b k (by omega)
  have e1:((i:Int)+k).toNat=i+k:=by omega
  rcases hT.out with ⟨hK,hkb⟩|⟨hk1,hc,hM⟩
  ·have hlen:=hK.len
   have hc0:=hK.c0
   have hc1:=hK.c1
   have hdo:=hK.ok.dat (i+k)
   have hz:k=b.length->dat out (i+k)=0∧dat b k=0:=fun h=>⟨hK.zero _ (by omega),M9 (by omega)⟩
   have hzm:k=b.length->dat a i*dat b k=0:=fun h=>by rw [(hz h).2,Int.mul_zero]
   conv=>whnf
   repeat' (first|refine zz ?_|refine qp d2 ?_|refine b8 (s7 (by omega)) ?_|refine a01 (by omega) (by show _<((out.length:Nat):Int);omega) ?_|refine j6 (J9 e1 (by omega)) ?_|refine ⟨by decide,_,b2E (by omega) (by omega) (by decide),?_⟩|refine ah3 (by decide) ?_|refine zd ?_ ?_<;>intro h<;>try omega|refine zy ?_|fail)<;>conv=>whnf
   all_goals have hn:0<=dat out (i+k)+dat a i*dat b k+c:=by omega
   ·have hst:=hK.step ha hb hi (by omega)
    refine ⟨[some 0],(k+1,out.set (i+k) ((dat out (i+k)+dat a i*dat b k+c) % 1048576),(dat out (i+k)+dat a i*dat b k+c) / 1048576),⟨rfl,rfl,⟨a8 rfl rfl rfl ?_ rfl,trivial⟩,⟨rfl,rfl,j9 rfl (by simp),rfl,rfl,rfl,trivial⟩⟩,⟨.inl ⟨hst,by omega⟩⟩,?_⟩
    ·rw [← b6J hn];exact H7 (by omega)
    ·show b.length+1 - (k+1)<b.length+1 - k;omega
   ·have hkb2:k=b.length:=by omega
    obtain ⟨z1,z2⟩:=hz hkb2
    have z3:=hzm hkb2
    have en:dat out (i+k)+dat a i*dat b k+c=c:=by omega
    have hdone:=hK
    rw [hkb2] at hdone
    have hdone:=hdone.done ha hb hi
    rw [← hkb2] at hdone
    refine ⟨[some 0],(k+1,out.set (i+k) ((dat out (i+k)+dat a i*dat b k+c) % 1048576),(dat out (i+k)+dat a i*dat b k+c) / 1048576),⟨rfl,rfl,⟨a8 rfl rfl rfl ?_ rfl,trivial⟩,⟨rfl,rfl,j9 rfl (by simp),rfl,rfl,rfl,trivial⟩⟩,⟨.inr ⟨by show k+1=b.length+1;omega,by show (dat out (i+k)+dat a i*dat b k+c) / 1048576=0;omega,?_⟩⟩,?_⟩
    ·rw [← b6J hn];exact H7 (by omega)
    ·have e2:(dat out (i+k)+dat a i*dat b k+c) % 1048576=dat out (i+k)+c:=by omega
     rw [e2];exact hdone
    ·show b.length+1 - (k+1)<b.length+1 - k;omega
   ·have hx:=hT.exit ha hb hi (by omega) (by omega)
    exact ⟨[some 0],(i+1,out),⟨rfl,rfl,⟨a8 rfl rfl rfl rfl rfl,trivial⟩,⟨rfl,rfl,j9 rfl rfl,c6 (by omega),trivial⟩⟩,hx,by show a.length - (i+1)<a.length - i;omega⟩
  ·have hlen:=hM.len
   have hx:=hT.exit ha hb hi (by omega) (by omega)
   conv=>whnf
   repeat' (first|refine zz ?_|refine zd ?_ ?_<;>intro h<;>try omega|refine zy ?_|fail)<;>conv=>whnf
   all_goals first
    |omega
    |exact ⟨[some 0],(i+1,out),⟨rfl,rfl,⟨a8 rfl rfl rfl rfl rfl,trivial⟩,⟨rfl,rfl,j9 rfl rfl,c6 (by omega),trivial⟩⟩,hx,by show a.length - (i+1)<a.length - i;omega⟩
 ·have hi:i=a.length:=by omega
  subst hi
  have hf:=hI.fin
  have t:=a5t out (by omega)
  rw [hf] at t
  refine .inr ⟨_,_,u0 [0] t ⟨a0q (t5 (by simp) rfl (by intro h;cases h) rfl rfl (by simp)),trivial⟩ rfl,?_⟩
  conv=>whnf
  exact a9w rfl
theorem ay6 (m n:Nat) (lm:(dg m).length<=300000) (ln:(dg n).length<=300000):
 a9 Tryz.prog 184 [d8 (dg m),d8 (dg n)] [] (d8 (dg (m*n))) []:=by
 have h:=aV0 (dg m) (dg n) (o8 m) (o8 n) (by omega) (by omega)
 rw [k6,k6,show ((m:Int)*n).toNat=m*n by rw [← Int.natCast_mul];rfl] at h
 exact h
set_option maxHeartbeats 1000000 in
theorem b3S (m n:Nat) (hn:0<n) (lm:(dg m).length<=200000) (ln:(dg n).length<=200000):
 a9 Tryz.prog 244 [d8 (dg m),d8 (dg n)] [] (aO1 m n) []:=by
 have l1:((dg m).map d9).length=(dg m).length:=by simp
 have l2:((dg n).map d9).length=(dg n).length:=by simp
 (refine ac Tryz.func244 ?_;(conv=>whnf);repeat (refine zy ?_;conv=>whnf))
 repeat' (first|refine zz ?_|refine a2q (by omega) (by omega) (by omega) (by decide) ?_|refine zd ?_ ?_<;>intro h<;>try omega|refine zy ?_|fail)<;>conv=>whnf
 refine k8 c8 (σ:=Nat × List Int × Nat) (fun|(j,q,r)=>([d8 (dg m),d8 (dg n),J,J,J,J,a0m 0 q,d8 (dg r),a7 .i64 ((j:Int) - 1),J,J,J,J,J,J,J,J,J,J,J,J,J,J,J,J,J,J,J,J,J,J,J,J,J,J,J,J,J,J,J,J,J,J,J,J,J,J,J,J,J,J,J,J,J,J,J,J,J,J,J],[o4 q])) (fun x=>Y8 (dg m) n x.1 x.2.1 x.2.2) (fun x=>x.1) ((dg m).length,List.replicate (dg m).length 0,0) [some 0]
  (Y8.init _ (by omega)) ⟨rfl,rfl,⟨a8 rfl rfl rfl ?_ rfl,trivial⟩,⟨g9 rfl,g9 rfl,j9 rfl (by simp),rfl,c6 (by omega),trivial⟩⟩ ?_
 ·show List.replicate _ _=_
  simp [toC,d9,A9]
 rintro ⟨j,q,r⟩ hI
 have hI:Y8 (dg m) n j q r:=hI
 have hlen:=hI.len
 have hle:=hI.le
 have hr1:=hI.r1
 by_cases hj:0<j
 ·obtain ⟨i,rfl⟩:∃i,j=i+1:=⟨j - 1,by omega⟩
  have ei:(((i+1:Nat):Int) - 1)=i:=by omega
  have hda:=(o8 m).dat i
  obtain ⟨y,hy⟩:=Int.eq_ofNat_of_zero_le hda.1
  have lr:=m8 (show r<=n by omega)
  have lm2:i<(dg m).length:=by omega
  generalize hR:r*1048576+y=R
  have hRn:R<n*1048576:=by
   have:=Nat.mul_le_mul_right 1048576 (show r+1<=n by omega)
   rw [Nat.add_mul] at this
   omega
  have lR:(dg R).length<=(dg n).length+1:=L1 (by
   have h1:=K4 n
   rw [D7]
   have h2:=Int.mul_le_mul_of_nonneg_right (a:=(n:Int)+1) (b:=pw (dg n).length) (c:=1048576) (by omega) (by decide)
   omega)
  have tr:=a5t (dat (dg m) i::dg r) (by simp;omega)
  rw [b4o (d:=n) hda,hy,Int.toNat_natCast,hR] at tr
  conv=>whnf
  repeat' (first|refine zz ?_|refine qp (toC,C4) ?_|refine qp toC ?_|refine qp 2 ?_|refine qp (toC,C4,d9,hy) ?_|refine qp (toC,Nat.add_comm) ?_|refine a3n.own ?_|refine E6 ei (s7 (by omega)) ?_|refine o7 (by simp [toC,C4]) (by simp [toC];omega) ?_|refine .inr ⟨_,_,u0 [2] tr ⟨a0q (t5 (by simp) rfl (by intro h;cases h) rfl (by simp [toC,C4,d9,hy]) (by simp [toC,Nat.add_comm])),trivial⟩ rfl,?_⟩|refine zd ?_ ?_<;>intro h<;>try omega|refine zy ?_|fail)<;>conv=>whnf
  refine k8 c8 (σ:=Nat × Nat) (fun|(lo,hi)=>([d8 (dg m),d8 (dg n),J,J,J,J,a0m 0 q,d8 (dg R),a7 .i64 i,a7 .i64 lo,a7 .i64 hi,J,J,J,J,J,J,J,J,J,J,J,J,J,J,J,J,J,J,J,J,J,J,J,J,J,J,J,J,J,J,J,J,J,J,J,J,J,J,J,J,J,J,J,J,J,J,J,J,J],[o4 q])) (fun x=>x.1*n<=R∧R<x.2*n∧x.1<x.2∧x.2<=1048576) (fun x=>x.2 - x.1) (0,1048576) [some 0]
   ⟨by simp,by show R<1048576*n;rw [Nat.mul_comm];exact hRn,by decide,by decide⟩ ⟨rfl,rfl,⟨a8 rfl rfl rfl rfl rfl,trivial⟩,⟨rfl,rfl,j9 rfl rfl,rfl,c6 ei,rfl,rfl,trivial⟩⟩ ?_
  rintro ⟨lo,hi⟩ ⟨i1,i2,i3,i4⟩
  have i1:lo*n<=R:=i1
  have i2:R<hi*n:=i2
  have i3:lo<hi:=i3
  have i4:hi<=1048576:=i4
  have ln1:(dg n).length<=200000:=ln
  by_cases hc:1<hi - lo
  ·have hmid:(((lo:Int)+hi) / 2)=(((lo+hi) / 2:Nat):Int):=by omega
   generalize hM:(lo+hi) / 2=mid at hmid
   have tm:=aV0 (dg n) [(mid:Int)] (o8 n) (by intro x hx;simp at hx;omega) (by omega) (by simp)
   have e0:val [(mid:Int)]=mid:=by simp [val]
   rw [e0,k6,show ((n:Int)*mid).toNat=n*mid by rw [← Int.natCast_mul];rfl] at tm
   have lnm:(dg (n*mid)).length<=(dg n).length+1:=Nat.le_trans (a2N _ _) (by have:=o5 (x:=(mid:Int)) (by omega) (by omega);simp only [bl,Int.natAbs_natCast] at this;omega)
   have ls:=b2r (dg R) (dg (n*mid)) (o8 _) (o8 _) (by omega) (by omega)
   rw [k6,k6] at ls
   conv=>whnf
   repeat' (first|refine zz ?_|refine qp ls ?_|refine qp (Int.tdiv_eq_ediv_of_nonneg (by omega)) ?_|refine ⟨by decide,_,y9 (y:=(mid:Int)) (by rw [Int.tdiv_eq_ediv_of_nonneg (by omega)];exact hmid) (by omega) (by omega),?_⟩|refine .inl ⟨_,_,Z5 tm ⟨ae1,a0q (aG1 rfl),trivial⟩ rfl,?_⟩|refine zd ?_ ?_<;>intro h<;>try omega|refine zy ?_|fail)<;>conv=>whnf
   ·have hlt:R<n*mid:=Int.ofNat_lt.1 (of_decide_eq_true (by assumption))
    exact ⟨[some 0],(lo,mid),⟨rfl,rfl,⟨a8 rfl rfl rfl rfl rfl,trivial⟩,⟨rfl,rfl,j9 rfl rfl,rfl,rfl,rfl,rfl,trivial⟩⟩,⟨i1,by show R<mid*n;rw [Nat.mul_comm];exact hlt,by show lo<mid;omega,by show mid<=1048576;omega⟩,by show mid - lo<hi - lo;omega⟩
   ·have hlt:n*mid<=R:=Nat.not_lt.1 (fun h=>absurd (Int.ofNat_lt.2 h) (of_decide_eq_false (by assumption)))
    exact ⟨[some 0],(mid,hi),⟨rfl,rfl,⟨a8 rfl rfl rfl rfl rfl,trivial⟩,⟨rfl,rfl,j9 rfl rfl,rfl,rfl,rfl,rfl,trivial⟩⟩,⟨by show mid*n<=R;rw [Nat.mul_comm];exact hlt,i2,by show mid<hi;omega,i4⟩,by show hi - mid<hi - lo;omega⟩
  ·obtain rfl:hi=lo+1:=by omega
   have hq:R / n=lo:=by
    rw [Nat.div_eq_iff hn]
    rw [Nat.add_mul] at i2
    omega
   have hm2:=Nat.div_add_mod R n
   rw [hq] at hm2
   have hrm:=Nat.mod_lt R hn
   have tl:=a5t [(lo:Int)] (by simp)
   rw [H9 (by intro x hx;simp at hx;omega),show (val [(lo:Int)]).toNat=lo by simp [val]] at tl
   have llo:(dg lo).length<=1:=by have:=o5 (x:=(lo:Int)) (by omega) (by omega);simpa [bl] using this
   have tt:=ay6 n lo (by omega) (by omega)
   have mi:=aY3 (dg R) (dg (n*lo)) (o8 _) (o8 _) (by omega) (m8 (by omega)) (by rw [k6,k6];omega)
   rw [k6,k6,show ((R:Int) - ((n*lo:Nat):Int)).toNat=R % n by omega] at mi
   have hst:=hI.step (o8 m) (by omega)
   have c1:((r:Int)*1048576+dat (dg m) i)=(R:Int):=by rw [hy,←hR];simp
   rw [c1] at hst
   have c2:(R:Int) / n=(lo:Int):=by rw [← hq];simp
   have c3:(R:Int) % n=((R % n:Nat):Int):=by simp
   rw [c2,c3] at hst
   have gq:q[0+(i:Int).toNat]? =some (dat q i):=J9 (by omega) (by omega)
   conv=>whnf
   repeat' (first|refine zz ?_|refine qp tt ?_|refine qp mi ?_|refine .inl ⟨_,_,Z5 tl ⟨a0q (aG1 rfl),trivial⟩ rfl,?_⟩|refine a01 (by omega) (by show _<((q.length:Nat):Int);omega) ?_|refine j6 gq ?_|refine zd ?_ ?_<;>intro h<;>try omega|refine zy ?_|fail)<;>conv=>whnf
   all_goals try omega
   refine ⟨[some 0],(i,q.set i lo,R % n),⟨rfl,rfl,⟨a8 rfl rfl rfl (H7 (by omega)) rfl,trivial⟩,⟨rfl,rfl,j9 rfl (by simp),rfl,c6 (by omega),trivial⟩⟩,hst,by show i<i+1;omega⟩
 ·obtain rfl:j=0:=by omega
  obtain ⟨f1,f2⟩:=hI.fin (o8 m) (by omega)
  have tq:=a5t q (by have:=hI.len;omega)
  rw [f1,k6,show ((m:Int) / n).toNat=m / n by rw [← Int.natCast_ediv];rfl] at tq
  rw [k6] at f2
  have f3:r=m % n:=by
   have:(m:Int) % n=((m % n:Nat):Int):=by simp
   omega
  subst f3
  conv=>whnf
  repeat' (first|refine zz ?_|refine qp 0 ?_|refine .inr ⟨_,_,u0 [0] tq ⟨a0q (t5 (by simp) rfl (by intro h;cases h) rfl rfl (by simp)),trivial⟩ rfl,?_⟩|refine zd ?_ ?_<;>intro h<;>try omega|refine zy ?_|fail)<;>conv=>whnf
  all_goals try omega
  exact k5 ⟨rfl,rfl,trivial⟩
theorem a2K (b:Bg) (hl:b.dl.length<=1000000):a9 Tryz.prog 180 [bgS b] [] (f5 (G0 b)) []:=by
 have l2:(b.dl.map d9).length=b.dl.length:=by simp
 (refine ac Tryz.func180 ?_;(conv=>whnf);repeat ((first|refine b0x ?_|refine zy ?_);conv=>whnf))
 repeat' (first|refine zz ?_|refine zd ?_ ?_<;>intro h<;>try omega|refine zy ?_|fail)<;>conv=>whnf
 refine d6 c8 (fun k=>([J,S.c (C.t (T.ptr [ti b.sg,F8 b.dl])),J,a7 .i64 k,J,J,J,J,J,J,J,J,J,J,J,J,J,J,J,J,J,J,J,J,J,J,J,J,J,J,J,J,J,J,J,J,J,J,J,J,J,J,J,J,J,J,J,J,J,J,J,J,J,J,J,J],[])) b.dl.length (fun k=>(b.dl.take k).all inD=true) [] rfl
  ⟨rfl,rfl,trivial,⟨g9 rfl,rfl,trivial⟩⟩ ?_
 intro k hk hI
 by_cases hlt:k<b.dl.length
 ·conv=>whnf
  repeat' (first|refine zz ?_|refine b8 (s7 (by omega)) ?_|refine zd ?_ ?_<;>intro h<;>try omega|refine zy ?_|fail)<;>conv=>whnf
  all_goals first
   |omega
   |exact ⟨hlt,by rw [p7 (s7 hlt),hI];simp [inD];omega,[],rfl,rfl,trivial,⟨rfl,rfl,trivial⟩⟩
   |(refine b9 ?_;unfold G0;rw [u9 (s7 hlt) (by simp [inD];omega)];rfl)
 ·have hke:k=b.dl.length:=by omega
  subst hke
  have ha:b.dl.all inD=true:=by rw [← hI,lg4 (by omega)]
  have hgl:0<b.dl.length->b.dl[((((b.dl.map d9).length:Nat):Int) - 1).toNat]? =some (dat b.dl (b.dl.length - 1)):=fun h=>by rw [l2];exact a6h h
  conv=>whnf
  repeat' (first|refine zz ?_|refine p4 (by omega) (hgl (by omega)) ?_|refine zd ?_ ?_<;>intro h<;>try omega|refine zy ?_|fail)<;>conv=>whnf
  all_goals first
   |omega
   |(exfalso;simp_all;done)
   |(exfalso;simp_all;omega)
   |skip
  all_goals
   refine b9 ?_
   unfold G0
   rw [ha]
   by_cases hz:b.dl.length=0
   ·rw [if_pos hz];simp_all<;>omega
   ·rw [if_neg hz];simp_all<;>omega
theorem a02 (x:Int) (lx:bl x<=300000):a9 Tryz.prog 180 [bgS (bz x)] [] (f5 true) []:=by
 have:=a2K (bz x) (show bl x<=1000000 by omega)
 rw [V7] at this
 exact this
theorem b75 (n:Int) (h0:-9223372036854775808<=n) (h1:n<=9223372036854775807):a9 Tryz.prog 176 [a7 .i64 n] [] (bgS (bz n)) []:=by
 rcases Int.lt_trichotomy n 0 with hn|hn|hn
 ·(refine ac Tryz.func176 ?_;(conv=>whnf);repeat (refine zy ?_;conv=>whnf))
  repeat' (first|refine zz ?_|refine zd ?_ ?_<;>intro h<;>try omega|refine zy ?_|fail)<;>conv=>whnf
  all_goals try omega
  refine k8 c8 (σ:=List Int × Nat) (fun|(acc,u)=>([a7 .i64 (- (u:Int)),J,S.c (C.ptr 0 0 0),a7 .i64 (-1),a0m 1 acc,J,J,J,J,J,J,J,J,J,J,J,J,J,J,J,J,J,J,J,J,J,J,J],[b1s,o4 acc])) (fun s=>OfI n s.1 s.2) (fun s=>s.2) ([],n.natAbs) [some 0,none]
   ⟨rfl⟩ ⟨rfl,rfl,⟨⟨rfl,rfl,rfl,.inl ⟨rfl,R9⟩⟩,⟨rfl,rfl⟩,trivial⟩,⟨c6 (by omega),⟨rfl,rfl,rfl⟩,rfl,⟨rfl,rfl,rfl⟩,trivial⟩⟩ ?_
  rintro ⟨acc,u⟩ hI
  have hI:OfI n acc u:=hI
  have hl:=hI.len h0 h1
  have hu:=hI.le
  have hm:(- (u:Int)).tmod 1048576=- ((u:Int) % 1048576):=by
   first
    |exact Int.tmod_eq_emod_of_nonneg (by omega)
    |(rw [Int.neg_tmod,Int.tmod_eq_emod_of_nonneg (by omega)])
  have hd:(- (u:Int)).tdiv 1048576=- ((u / 1048576:Nat):Int):=by
   first
    |(rw [Int.tdiv_eq_ediv_of_nonneg (by omega)];simp;done)
    |(rw [Int.neg_tdiv,Int.tdiv_eq_ediv_of_nonneg (by omega)];simp)
  by_cases hu0:0<u
  ·have hst:=hI.step hu0
   conv=>whnf
   repeat' (first|refine zz ?_|refine qp toC ?_|refine qp toC ?_|refine o7 (by simp [toC]) (by simp [toC];omega) ?_|refine ⟨by decide,_,y9 hd (by omega) (by omega),?_⟩|refine ah3 (by decide) ?_|refine zd ?_ ?_<;>intro h<;>try omega|refine zy ?_|fail)<;>conv=>whnf
   all_goals try omega
   all_goals
    refine ⟨[some 0,some 2],(acc++[(u:Int) % 1048576],u / 1048576),⟨rfl,rfl,⟨⟨rfl,rfl,rfl,.inl ⟨rfl,R9⟩⟩,a8 rfl rfl rfl ?_ rfl,trivial⟩,⟨c6 rfl,⟨rfl,rfl,rfl⟩,rfl,j9 rfl (by simp [toC]),trivial⟩⟩,hst,by show u / 1048576<u;omega⟩
    have e:∀y:Int,y=(u:Int) % 1048576->(toC (acc.map d9)).take acc.length++toC [[ti y]]=toC ((acc++[(u:Int) % 1048576]).map d9):=fun y hy=>by rw [hy];exact a13
    exact e _ (by omega)
  ·have h0u:u=0:=by omega
   subst h0u
   have e:acc=dg n.natAbs:=by have:=hI.eq;rw [S3,List.append_nil] at this;exact this
   have sg:=G3 (-1) n.natAbs (by omega) (by rw [← e];omega)
   rw [← e,show (-1)*(n.natAbs:Int)=n by omega] at sg
   conv=>whnf
   repeat' (first|refine zz ?_|refine qp 1 ?_|refine .inr ⟨_,_,u0 [1] sg ⟨ae1,a0q (t5 (by simp) rfl (by intro h;cases h) rfl rfl (by simp)),trivial⟩ rfl,?_⟩|refine zd ?_ ?_<;>intro h<;>try omega|refine zy ?_|fail)<;>conv=>whnf
   all_goals try omega
   exact k5 ⟨rfl,rfl,trivial⟩
 ·subst hn
  (refine ac Tryz.func176 ?_;(conv=>whnf);repeat (refine zy ?_;conv=>whnf))
  repeat' (first|refine zz ?_|refine zd ?_ ?_<;>intro h<;>try omega|refine zy ?_|fail)<;>conv=>whnf
  all_goals first
   |omega
   |exact k5 ⟨rfl,rfl,trivial⟩
 ·(refine ac Tryz.func176 ?_;(conv=>whnf);repeat (refine zy ?_;conv=>whnf))
  repeat' (first|refine zz ?_|refine zd ?_ ?_<;>intro h<;>try omega|refine zy ?_|fail)<;>conv=>whnf
  all_goals try omega
  refine k8 c8 (σ:=List Int × Nat) (fun|(acc,u)=>([a7 .i64 ((u:Int)),J,S.c (C.ptr 0 0 0),a7 .i64 (1),a0m 1 acc,J,J,J,J,J,J,J,J,J,J,J,J,J,J,J,J,J,J,J,J,J,J,J],[b1s,o4 acc])) (fun s=>OfI n s.1 s.2) (fun s=>s.2) ([],n.natAbs) [some 0,none]
   ⟨rfl⟩ ⟨rfl,rfl,⟨⟨rfl,rfl,rfl,.inl ⟨rfl,R9⟩⟩,⟨rfl,rfl⟩,trivial⟩,⟨c6 (by omega),⟨rfl,rfl,rfl⟩,rfl,⟨rfl,rfl,rfl⟩,trivial⟩⟩ ?_
  rintro ⟨acc,u⟩ hI
  have hI:OfI n acc u:=hI
  have hl:=hI.len h0 h1
  have hu:=hI.le
  have hm:((u:Int)).tmod 1048576=((u:Int) % 1048576):=by
   first
    |exact Int.tmod_eq_emod_of_nonneg (by omega)
    |(rw [Int.neg_tmod,Int.tmod_eq_emod_of_nonneg (by omega)])
  have hd:((u:Int)).tdiv 1048576=((u / 1048576:Nat):Int):=by
   first
    |(rw [Int.tdiv_eq_ediv_of_nonneg (by omega)];simp;done)
    |(rw [Int.neg_tdiv,Int.tdiv_eq_ediv_of_nonneg (by omega)];simp)
  by_cases hu0:0<u
  ·have hst:=hI.step hu0
   conv=>whnf
   repeat' (first|refine zz ?_|refine qp toC ?_|refine qp toC ?_|refine o7 (by simp [toC]) (by simp [toC];omega) ?_|refine ⟨by decide,_,y9 hd (by omega) (by omega),?_⟩|refine ah3 (by decide) ?_|refine zd ?_ ?_<;>intro h<;>try omega|refine zy ?_|fail)<;>conv=>whnf
   all_goals try omega
   all_goals
    refine ⟨[some 0,some 2],(acc++[(u:Int) % 1048576],u / 1048576),⟨rfl,rfl,⟨⟨rfl,rfl,rfl,.inl ⟨rfl,R9⟩⟩,a8 rfl rfl rfl ?_ rfl,trivial⟩,⟨c6 rfl,⟨rfl,rfl,rfl⟩,rfl,j9 rfl (by simp [toC]),trivial⟩⟩,hst,by show u / 1048576<u;omega⟩
    have e:∀y:Int,y=(u:Int) % 1048576->(toC (acc.map d9)).take acc.length++toC [[ti y]]=toC ((acc++[(u:Int) % 1048576]).map d9):=fun y hy=>by rw [hy];exact a13
    exact e _ (by omega)
  ·have h0u:u=0:=by omega
   subst h0u
   have e:acc=dg n.natAbs:=by have:=hI.eq;rw [S3,List.append_nil] at this;exact this
   have sg:=G3 (1) n.natAbs (by omega) (by rw [← e];omega)
   rw [← e,show (1)*(n.natAbs:Int)=n by omega] at sg
   conv=>whnf
   repeat' (first|refine zz ?_|refine qp 1 ?_|refine .inr ⟨_,_,u0 [1] sg ⟨ae1,a0q (t5 (by simp) rfl (by intro h;cases h) rfl rfl (by simp)),trivial⟩ rfl,?_⟩|refine zd ?_ ?_<;>intro h<;>try omega|refine zy ?_|fail)<;>conv=>whnf
   all_goals try omega
   exact k5 ⟨rfl,rfl,trivial⟩
theorem b6w (x y:Int) (lx:bl x<=200000) (ly:bl y<=200000):a9 Tryz.prog 181 [bgS (bz x),bgS (bz y)] [] (.tup [bgS (bz (Int.gcd x y)),a7 .i64 0]) []:=by
 have r1:=a02 x (by omega)
 have r2:=a02 y (by omega)
 (refine ac Tryz.func181 ?_;(conv=>whnf);repeat (refine zy ?_;conv=>whnf))
 repeat' (first|refine zz ?_|refine qp r1 ?_|refine qp r2 ?_|refine zd ?_ ?_<;>intro h<;>try omega|refine zy ?_|fail)<;>conv=>whnf
 all_goals first
  |(exfalso;simp_all;done)
  |skip
 refine k8 c8 (σ:=Nat × Nat) (fun|(X,Y)=>([J,J,J,J,S.c (C.ptr 0 0 0),J,d8 (dg X),d8 (dg Y),J,J,J,J,J,J,J,J,J,J,J,J,J,J,J,J,J,J,J,J,J,J,J,J,J,J,J,J],[b1s])) (fun s=>b4B x y s.1 s.2) (fun s=>s.2) (x.natAbs,y.natAbs) [some 2]
  ⟨rfl,lx,ly⟩ ⟨rfl,rfl,⟨⟨rfl,rfl,rfl,.inl ⟨rfl,R9⟩⟩,trivial⟩,⟨⟨rfl,rfl,rfl⟩,rfl,rfl,trivial⟩⟩ ?_
 rintro ⟨X,Y⟩ hI
 have hI:b4B x y X Y:=hI
 obtain ⟨g1,g2,g3⟩:=hI
 have l2:((dg Y).map d9).length=(dg Y).length:=by simp
 by_cases hY:0<Y
 ·have hp:(dg Y).length≠0:=by rw [Ne,List.length_eq_zero_iff,N2];omega
  have dv:=b3S X Y hY (by omega) (by omega)
  conv=>whnf
  repeat' (first|refine zz ?_|refine qp dv ?_|refine zd ?_ ?_<;>intro h<;>try omega|refine zy ?_|fail)<;>conv=>whnf
  all_goals first
   |omega
   |exact ⟨[some 0],(Y,X % Y),⟨rfl,rfl,⟨⟨rfl,rfl,rfl,.inl ⟨rfl,R9⟩⟩,trivial⟩,⟨⟨rfl,rfl,rfl⟩,rfl,rfl,trivial⟩⟩,⟨by rw [← g1,Nat.gcd_comm Y,←Nat.gcd_rec,Nat.gcd_comm],g3,Nat.le_trans (m8 (Nat.le_of_lt (Nat.mod_lt X hY))) g3⟩,Nat.mod_lt X hY⟩
 ·have hY:Y=0:=by omega
  subst hY
  have hp:(dg 0).length=0:=rfl
  have s1:=G3 1 X (by simp) (by omega)
  conv=>whnf
  repeat' (first|refine zz ?_|refine qp s1 ?_|refine zd ?_ ?_<;>intro h<;>try omega|refine zy ?_|fail)<;>conv=>whnf
  all_goals first
   |omega
   |skip
  refine a5i ?_
  rw [Int.one_mul,show X=Int.gcd x y by rw [Int.gcd,←g1,Nat.gcd_zero_right]]
theorem b6z (x y:Int) (hy:0<y) (hxy:x % y=0) (lx:bl x<=200000) (ly:bl y<=200000):a9 Tryz.prog 189 [bgS (bz x),bgS (bz y)] [] (.tup [bgS (bz (x / y)),bgS (bz 0),a7 .i64 0]) []:=by
 have r1:=a02 x (by omega)
 have r2:=a02 y (by omega)
 have hys:(bz y).sg=1:=by rw [ab2,Int.sign_eq_one_of_pos hy]
 have ov:=b3S x.natAbs y.natAbs (by omega) lx ly
 have hmod:x.natAbs % y.natAbs=0:=by
  have:=Int.natAbs_dvd_natAbs.2 (Int.dvd_of_emod_eq_zero hxy)
  exact Nat.mod_eq_zero_of_dvd this
 have lq:=m8 (Nat.div_le_self x.natAbs y.natAbs)
 have hsg:(bz x).sg=x.sign:=rfl
 have hs:=B2 x
 have hq:x.sign*((x.natAbs / y.natAbs:Nat):Int)=x / y:=by
  obtain ⟨k,hk⟩:=Int.dvd_of_emod_eq_zero hxy
  subst hk
  have hk2:(y*k) / y=k:=Int.mul_ediv_cancel_left _ (by omega)
  rw [hk2,Int.natAbs_mul,Nat.mul_div_cancel_left _ (by omega),Int.sign_mul,Int.sign_eq_one_of_pos hy,Int.one_mul]
  exact Int.sign_mul_natAbs k
 have s1:=G3 x.sign (x.natAbs / y.natAbs) (by
  rcases hs with ⟨h,h1⟩|⟨h,h1⟩|⟨h,h1⟩
  ·right;right;subst h1;simp
  ·exact .inl h
  ·exact .inr (.inl h)) (by unfold bl at lx;omega)
 rw [hq] at s1
 have s2:=G3 x.sign 0 (by simp) (by rw [S3];simp)
 rw [show x.sign*((0:Nat):Int)=0 by simp] at s2
 have hmul:x.sign*1=x.sign:=Int.mul_one _
 have hd0:((dg (x.natAbs % y.natAbs)).map d9).length=0:=by rw [hmod,S3];rfl
 unfold aO1 at ov
 rw [hmod] at ov hd0
 (refine ac Tryz.func189 ?_;(conv=>whnf);repeat (refine zy ?_;conv=>whnf))
 repeat' (first|refine zz ?_|refine qp r1 ?_|refine qp r2 ?_|refine qp ov ?_|refine qp s1 ?_|refine qp s2 ?_|refine qp (hys,hsg) ?_|refine ⟨_,y9 (y:=x.sign) (by rw [hys,hsg];exact hmul) (by omega) (by omega),?_⟩|refine zd ?_ ?_<;>intro h<;>try omega|refine zy ?_|fail)<;>conv=>whnf
 all_goals first
  |omega
  |(exfalso;simp_all;done)
  |exact b03 rfl rfl
theorem b01 (p q:Int) (hq:0<q) (lp:bl p<=200000) (lq:bl q<=200000):a9 Tryz.prog 114 [bgS (bz p),bgS (bz q)] [] (.tup [frS (fz (Rat.divInt p q)),a7 .i64 0]) []:=by
 have r1:=a02 p (by omega)
 have r2:=a02 q (by omega)
 have hsg:(bz q).sg=1:=by rw [ab2,Int.sign_eq_one_of_pos hq]
 have lg:=a9h p q lp lq
 have hg:0<(Int.gcd p q:Int):=by have:=Int.gcd_pos_of_ne_zero_right p (b:=q) (by omega);omega
 have g:=b6w p q lp lq
 have d1:=b6z p _ hg (Int.emod_eq_zero_of_dvd (Int.gcd_dvd_left ..)) lp lg
 have d2:=b6z q _ hg (Int.emod_eq_zero_of_dvd (Int.gcd_dvd_right ..)) lq lg
 have e:=a7z (p:=p) (q:=q) (by omega) rfl
 (refine ac Tryz.func114 ?_;(conv=>whnf);repeat (refine zy ?_;conv=>whnf))
 repeat' (first|refine zz ?_|refine qp r1 ?_|refine qp r2 ?_|refine qp g ?_|refine qp d1 ?_|refine qp d2 ?_|refine zd ?_ ?_<;>intro h<;>try omega|refine zy ?_|fail)<;>conv=>whnf
 all_goals first
  |omega
  |(exfalso;simp_all;done)
  |exact T5 e.symm
theorem b92 (p q:Int) (hq:0<q) (p0:-9223372036854775808<=p) (p1:p<=9223372036854775807) (q1:q<=9223372036854775807):
 a9 Tryz.prog 106 [a7 .i64 p,a7 .i64 q] [] (.tup [frS (fz (Rat.divInt p q)),a7 .i64 0]) []:=by
 have l1:=P6 p0 p1
 have l2:=P6 (x:=q) (by omega) q1
 have o1:=b75 p p0 p1
 have o2:=b75 q (by omega) q1
 have n:=b01 p q hq (by omega) (by omega)
 (refine ac Tryz.func106 ?_;(conv=>whnf);repeat (refine zy ?_;conv=>whnf))
 repeat' (first|refine zz ?_|refine qp o1 ?_|refine qp o2 ?_|refine qp n ?_|refine zd ?_ ?_<;>intro h<;>try omega|refine zy ?_|fail)<;>conv=>whnf
 all_goals exact T5 rfl
theorem a2b (n:Int) (p0:-9223372036854775808<=n) (p1:n<=9223372036854775807):a9 Tryz.prog 41 [a7 .i64 n] [] (frS (fz (n:Rat))) []:=by
 have o:=b92 n 1 (by decide) p0 p1 (by decide)
 have e:Rat.divInt n 1=(n:Rat):=by rw [Rat.divInt_eq_div];simp;grind
 rw [e] at o
 (refine ac Tryz.func41 ?_;(conv=>whnf);repeat (refine zy ?_;conv=>whnf))
 repeat' (first|refine zz ?_|refine qp o ?_|refine zd ?_ ?_<;>intro h<;>try omega|refine zy ?_|fail)<;>conv=>whnf
 all_goals exact k5 ⟨rfl,rfl,rfl,rfl,trivial⟩
def aN5 (n:Int) (f:Fr):Bool:=decide ((f.p.dl.length:Int)<=n) && decide ((f.q.dl.length:Int)<=n)
theorem b74 (f:Fr) (n:Int):a9 Tryz.prog 64 [frS f,a7 .i64 n] [] (f5 (aN5 n f)) []:=by
 have l1:(f.p.dl.map d9).length=f.p.dl.length:=by simp
 have l2:(f.q.dl.map d9).length=f.q.dl.length:=by simp
 (refine ac Tryz.func64 ?_;(conv=>whnf);repeat ((first|refine b0x ?_|refine zy ?_);conv=>whnf))
 repeat' (first|refine zz ?_|refine zd ?_ ?_<;>intro h<;>try omega|refine zy ?_|fail)<;>conv=>whnf
 all_goals (refine b9 ?_;unfold aN5;simp;omega)
abbrev ir (n:Int):Rat:=((n:Int):Rat)
instance:DecidableEq B1:=fun a b=>decidable_of_iff (a.terms=b.terms∧a.kind=b.kind∧a.value=b.value) ⟨fun ⟨h1,h2,h3⟩=>by cases a;cases b;simp_all,fun h=>by subst h;exact ⟨rfl,rfl,rfl⟩⟩
instance:DecidableEq f7:=fun a b=>decidable_of_iff (a.n=b.n∧a.rows=b.rows) ⟨fun ⟨h1,h2⟩=>by cases a;cases b;simp_all,fun h=>by subst h;exact ⟨rfl,rfl⟩⟩
def A8 (l:List (Int × Rat)):Prop:=∀t ∈ l,∃c:Int,t.2=((c:Int):Rat)∧bl c<=1
theorem V3 {i:Int} {c:Int} (h0:-1048575<=c) (h1:c<=1048575):A8 [(i,((c:Int):Rat))]:=by
 intro t ht
 simp at ht
 subst ht
 exact ⟨c,rfl,o5 h0 h1⟩
theorem a7y {a b:List (Int × Rat)} (ha:A8 a) (hb:A8 b):A8 (a++b):=by
 intro t ht
 rcases List.mem_append.1 ht with h|h
 ·exact ha t h
 ·exact hb t h
theorem a53 {e:Ev} {p:Int}:∀k,A8 (i7 e p k)
 |0=>by intro t ht;cases ht
 |k+1=>by
  have ih:=a53 (e:=e) (p:=p) k
  unfold i7
  split
  ·exact ih
  ·split
   ·exact a7y ih (V3 (by decide) (by decide))
   ·split
    ·exact a7y ih (V3 (by decide) (by decide))
    ·exact ih
theorem a6F {l:List (Int × Rat)} {z:List Rat} {B:Nat} (h1:∀t ∈ l,rl t.2<=1) (h2:∀v ∈ z,rl v<=B):∀k,rl (k7 (l.take k) z)<=l.length*(B+4)+1:=by
 have key:∀k,k<=l.length->rl (k7 (l.take k) z)<=k*(B+4)+1:=by
  intro k
  induction k with
  |zero=>intro _;rw [List.take_zero];have:=rl0;show rl 0<=_;omega
  |succ k ih=>
   intro hk
   have ih:=ih (by omega)
   rw [List.take_succ_eq_append_getElem (show k<l.length by omega),P9]
   have a1:=h1 l[k] (List.getElem_mem _)
   have a2:rl (z.getD l[k].1.toNat 0)<=B+1:=by
    by_cases hz:l[k].1.toNat<z.length
    ·have:=h2 _ (lg2 (getD_some hz));omega
    ·rw [lg3,List.getElem?_eq_none (by omega)]
     have:=rl0
     show rl 0<=_
     omega
   have a3:=a2Y l[k].2 (z.getD l[k].1.toNat 0)
   have a4:=a3a (k7 (l.take k) z) (l[k].2*z.getD l[k].1.toNat 0)
   rw [Nat.succ_mul]
   omega
 intro k
 by_cases hk:k<=l.length
 ·have h3:=key k hk
  have h4:=Nat.mul_le_mul_right (B+4) hk
  omega
 ·have h3:=key l.length (Nat.le_refl _)
  rw [lg4 (Nat.le_refl _)] at h3
  rw [lg4 (by omega)];exact h3
theorem M6 {l:List (Int × Rat)} (h:A8 l):∀t ∈ l,rl t.2<=1:=by
 intro t ht
 obtain ⟨c,hc,hb⟩:=h t ht
 rw [hc,a1c]
 have h1:bl 1<=1:=o5 (by decide) (by decide)
 omega
theorem b1A {s:f7} {g:List (Int × Rat)} {n B:Nat} (h:G8 s g n B):∀v ∈ x6 s g,rl v<=B:=by
 intro v hv
 have hb:=aa6 h
 have hn:=h.nn
 have h1:=h.b1
 obtain ⟨j,hj,rfl⟩:=a4w hv
 have hp:X8 (e8 s).length s.n.toNat (v8 s g):=P4.p
 rw [hn] at hj hp ⊢
 rw [← aU0 hp hj]
 have key:∀k,k<=(e8 s).length->rl (ptK n (v8 s g).O (v8 s g).V (fun _=>0) k j)<=B:=by
  intro k
  induction k with
  |zero=>intro _;have:=rl0;show rl 0<=_;omega
  |succ k ih=>
   intro hk
   rw [P3]
   simp only
   split
   ·exact hb.v k (by omega)
   ·exact ih (by omega)
 exact key _ (Nat.le_refl _)
theorem Z1 {l:List (Int × Rat)} (h:A8 l):A8 (N9 l):=by
 intro t ht
 obtain ⟨u,hu,rfl⟩:=List.mem_map.1 ht
 obtain ⟨c,hc,hb⟩:=h u hu
 refine ⟨-c,?_,by rw [a8p];exact hb⟩
 show u.2*((-1:Int):Rat)=((-c:Int):Rat)
 rw [hc]
 have e:((-c:Int):Rat)=-((c:Int):Rat):=by push_cast;rfl
 have e1:((-1:Int):Rat)=-1:=rfl
 rw [e,e1];grind
theorem T9 {n:Int}:∀{l:List (Int × Rat)} {last:Int},f8 last n l=true->f8 last n (N9 l)=true
 |[],_,_=>rfl
 |a::r,last,h=>by
  unfold f8 at h
  show f8 last n ((a.1,a.2*((-1:Int):Rat))::N9 r)=true
  unfold f8
  simp only [Bool.and_eq_true,decide_eq_true_eq] at h ⊢
  refine ⟨⟨⟨h.1.1.1,h.1.1.2⟩,fun e=>h.1.2 ?_⟩,T9 h.2⟩
  have e1:((-1:Int):Rat)=-1:=rfl
  rw [e1] at e
  grind
theorem b5O (l:List (Int × Rat)):(N9 l).length=l.length:=a19 _ _
theorem ar8 {s:f7} {g:List (Int × Rat)} (hr:i8 s=true) (hz:a0o s []=.best):a0o s g=.best∨∃c,a0o s g=.col c:=by
 rcases aj9 s g with h|⟨r,h⟩|h
 ·exact .inl h
 ·have h1:=(a1V hr rfl hz).1
  rw [b0m h] at h1;cases h1
 ·exact .inr h
structure ae3 (a b:List Int) (i:Nat) (out:List Int) (c:Int):Prop where
 len:out.length=i
 ok:Okd out
 le:i<=max a.length b.length+1
 top:i=max a.length b.length+1->c=0
 c0:0<=c
 c1:c<=1
 eq:val out+pw i*c=val (a.take i)+val (b.take i)
theorem ae3.init (a b:List Int):ae3 a b 0 [] 0:=⟨rfl,.nil,Nat.zero_le _,fun _=>rfl,by decide,by decide,by simp [val]⟩
theorem ae3.step {a b out:List Int} {i:Nat} {c:Int} (h:ae3 a b i out c) (ha:Okd a) (hb:Okd b) (hi:i<a.length∨i<b.length∨0<c):
 ae3 a b (i+1) (out++[(dat a i+dat b i+c) % 1048576]) ((dat a i+dat b i+c) / 1048576):=by
 have h1:=ha.dat i
 have h2:=hb.dat i
 have h3:=h.c0
 have h4:=h.c1
 have hl:=h.le
 have ht:=h.top
 have hi2:i<=max a.length b.length:=by
  rcases Nat.lt_or_ge (max a.length b.length) i with h5|h5
  ·have:=ht (by omega);omega
  ·exact h5
 refine ⟨by simp [h.len],h.ok.append (Okd.cons (a4s _) .nil),by omega,fun e=>?_,by omega,by omega,?_⟩
 ·have e1:dat a i=0:=M9 (by omega)
  have e2:dat b i=0:=M9 (by omega)
  rw [e1,e2];omega
 ·rw [I6,h.len,o6,o6,D7]
  have h5:=h.eq
  have h6:(dat a i+dat b i+c) % 1048576=dat a i+dat b i+c - 1048576*((dat a i+dat b i+c) / 1048576):=by omega
  simp only [val]
  rw [h6]
  grind
theorem ae3.fin {a b out:List Int} {i:Nat} {c:Int} (h:ae3 a b i out c) (la:a.length<=i) (lb:b.length<=i) (hc:c<=0):E3 out=dg (val a+val b).toNat:=by
 have h1:=h.eq
 have h2:=h.c0
 obtain rfl:c=0:=by omega
 rw [lg4 la,lg4 lb] at h1
 rw [H9 h.ok]
 congr 2
 grind
theorem b82 (a b:List Int) (ha:Okd a) (hb:Okd b) (la:a.length<=400000) (lb:b.length<=400000):
 a9 Tryz.prog 185 [d8 a,d8 b] [] (d8 (dg (val a+val b).toNat)) []:=by
 have l1:(a.map d9).length=a.length:=by simp
 have l2:(b.map d9).length=b.length:=by simp
 (refine ac Tryz.func185 ?_;(conv=>whnf);repeat (refine zy ?_;conv=>whnf))
 repeat' (first|refine zz ?_|refine zd ?_ ?_<;>intro h<;>try omega|refine zy ?_|fail)<;>conv=>whnf
 refine k8 c8 (σ:=Nat × List Int × Int) (fun|(k,out,c)=>([d8 a,d8 b,J,J,J,a0m 0 out,a7 .i64 c,a7 .i64 k,J,J,J,J,J,J,J,J,J,J,J,J,J,J,J,J,J,J,J,J,J,J,J,J,J,J,J,J,J,J,J,J,J,J,J],[o4 out])) (fun x=>ae3 a b x.1 x.2.1 x.2.2) (fun x=>max a.length b.length+1 - x.1) (0,[],0) [none]
  (ae3.init a b) ⟨rfl,rfl,⟨⟨rfl,rfl⟩,trivial⟩,⟨g9 rfl,g9 rfl,⟨rfl,rfl,rfl⟩,rfl,rfl,trivial⟩⟩ ?_
 rintro ⟨k,out,c⟩ hI
 have hI:ae3 a b k out c:=hI
 have hlen:=hI.len
 have hle:=hI.le
 have hc0:=hI.c0
 have hc1:=hI.c1
 have hda:=ha.dat k
 have hdb:=hb.dat k
 have d1:=a4J a k (by omega)
 have d2:=a4J b k (by omega)
 have hm:(dat a k+dat b k+c).tmod 1048576=(dat a k+dat b k+c) % 1048576:=Int.tmod_eq_emod_of_nonneg (by omega)
 have hd:(dat a k+dat b k+c).tdiv 1048576=(dat a k+dat b k+c) / 1048576:=Int.tdiv_eq_ediv_of_nonneg (by omega)
 by_cases hgo:k<a.length∨k<b.length∨0<c
 ·have hst:=hI.step ha hb hgo
  have hk2:=hst.le
  conv=>whnf
  repeat' (first|refine zz ?_|refine qp d1 ?_|refine qp d2 ?_|refine qp toC ?_|refine qp toC ?_|refine o7 (by simp [toC]) (by simp [toC];omega) ?_|refine ⟨by decide,_,y9 hd (by omega) (by omega),?_⟩|refine ah3 (by decide) ?_|refine zd ?_ ?_<;>intro h<;>try omega|refine zy ?_|fail)<;>conv=>whnf
  all_goals try omega
  all_goals
   refine ⟨[some 1],(k+1,out++[(dat a k+dat b k+c) % 1048576],(dat a k+dat b k+c) / 1048576),⟨rfl,rfl,⟨a8 rfl rfl rfl ?_ rfl,trivial⟩,⟨rfl,rfl,j9 rfl (by simp [toC]),rfl,c6 (by omega),trivial⟩⟩,hst,?_⟩
   ·have e:∀y:Int,y=(dat a k+dat b k+c) % 1048576->(toC (out.map d9)).take out.length++toC [[ti y]]=toC ((out++[(dat a k+dat b k+c) % 1048576]).map d9):=fun y hy=>by rw [hy];exact a13
    exact e _ (by omega)
   ·show max a.length b.length+1 - (k+1)<max a.length b.length+1 - k
    omega
 ·have hf:=hI.fin (by omega) (by omega) (by omega)
  have t:=a5t out (by omega)
  rw [hf] at t
  conv=>whnf
  repeat' (first|refine zz ?_|refine qp 0 ?_|refine .inr ⟨_,_,u0 [0] t ⟨a0q (t5 (by simp) rfl (by intro h;cases h) rfl rfl (by simp)),trivial⟩ rfl,?_⟩|refine zd ?_ ?_<;>intro h<;>try omega|refine zy ?_|fail)<;>conv=>whnf
  all_goals first
   |omega
   |exact a9w rfl
theorem b4x (m n:Nat) (lm:(dg m).length<=300000) (ln:(dg n).length<=300000):a9 Tryz.prog 185 [d8 (dg m),d8 (dg n)] [] (d8 (dg (m+n))) []:=by
 have h:=b82 (dg m) (dg n) (o8 m) (o8 n) (by omega) (by omega)
 rw [k6,k6,show ((m:Int)+n).toNat=m+n by omega] at h
 exact h
theorem a6o (m n:Nat) (lm:(dg m).length<=300000) (h:n<=m):a9 Tryz.prog 187 [d8 (dg m),d8 (dg n)] [] (d8 (dg (m - n))) []:=by
 have h:=aY3 (dg m) (dg n) (o8 m) (o8 n) (by omega) (m8 h) (by rw [k6,k6];omega)
 rw [k6,k6,show ((m:Int) - n).toNat=m - n by omega] at h
 exact h
theorem b0j (m n:Nat) (lm:(dg m).length<=300000) (ln:(dg n).length<=300000):a9 Tryz.prog 186 [d8 (dg m),d8 (dg n)] [] (f5 (decide (m<n))) []:=by
 have h:=b2r (dg m) (dg n) (o8 m) (o8 n) (by omega) (by omega)
 rw [k6,k6,show decide ((m:Int)<n)=decide (m<n) by simp] at h
 exact h
theorem b5J (s:Int) (m:Nat) (h:Sg s m) (lm:(dg m).length<=300000):a9 Tryz.prog 180 [bgS ⟨s,dg m⟩] [] (f5 true) []:=by
 have:=a2K ⟨s,dg m⟩ (show (dg m).length<=1000000 by omega)
 rw [← a6p h,V7,a6p h] at this
 exact this
theorem b8k (x:Int) (lx:bl x<=300000):a9 Tryz.prog 188 [bgS (bz x)] [] (bgS (bz (-x))) []:=by
 have r:=a02 x lx
 have hs:=B2 x
 have hsg:(bz x).sg=x.sign:=rfl
 have sg:=G3 (0 - (bz x).sg) x.natAbs (by omega) (by unfold bl at lx;omega)
 rw [show (0 - (bz x).sg)*(x.natAbs:Int)=-x by rw [hsg];have:=sgm x;grind] at sg
 (refine ac Tryz.func188 ?_;(conv=>whnf);repeat ((first|refine b0x ?_|refine zy ?_);conv=>whnf))
 repeat' (first|refine zz ?_|refine qp r ?_|refine qp sg ?_|refine zd ?_ ?_<;>intro h<;>try omega|refine zy ?_|fail)<;>conv=>whnf
 all_goals first
  |(exfalso;simp_all;done)
  |exact k5 ⟨rfl,rfl,trivial⟩
theorem a2z {α:Type} {l:List α} {k:Nat} {x:α} (h:l[k]? =some x):l.take (k+1)=l.take k++[x]:=by
 rw [List.take_add_one,h];rfl
theorem b7o (a b:Bg) (ha:a.dl.length<=1000000) (hb:b.dl.length<=1000000):a9 Tryz.prog 245 [bgS a,bgS b] [] (f5 (decide (a.sg=b.sg∧a.dl=b.dl))) []:=by
 have l1:(a.dl.map d9).length=a.dl.length:=by simp
 have l2:(b.dl.map d9).length=b.dl.length:=by simp
 by_cases h0:¬(a.sg=b.sg∧a.dl.length=b.dl.length)
 ·(refine ac Tryz.func245 ?_;(conv=>whnf);repeat ((first|refine b0x ?_|refine zy ?_);conv=>whnf))
  repeat' (first|refine zz ?_|refine zd ?_ ?_<;>intro h<;>try omega|refine zy ?_|fail)<;>conv=>whnf
  all_goals first
   |omega
   |(refine b9 (decide_eq_false ?_).symm;rintro ⟨h1,h2⟩;rw [h2] at h0;exact h0 ⟨h1,rfl⟩)
 have h0:a.sg=b.sg∧a.dl.length=b.dl.length:=Decidable.not_not.1 h0
 (refine ac Tryz.func245 ?_;(conv=>whnf);repeat ((first|refine b0x ?_|refine zy ?_);conv=>whnf))
 repeat' (first|refine zz ?_|refine zd ?_ ?_<;>intro h<;>try omega|refine zy ?_|fail)<;>conv=>whnf
 all_goals try omega
 refine d6 c8 (fun k=>([J,J,S.c (C.t (T.ptr [ti a.sg,F8 a.dl])),S.c (C.t (T.ptr [ti b.sg,F8 b.dl])),J,a7 .i64 k,J,J,J,J,J,J,J,J,J,J,J,J,J,J,J,J,J,J,J,J,J,J,J,J,J,J,J,J,J,J,J,J],[])) a.dl.length (fun k=>a.dl.take k=b.dl.take k) [] rfl
  ⟨rfl,rfl,trivial,⟨rfl,rfl,rfl,trivial⟩⟩ ?_
 intro k hk hI
 by_cases hlt:k<a.dl.length
 ·obtain ⟨x,hx⟩:∃x,a.dl[k]? =some x:=⟨_,lg0 hlt⟩
  obtain ⟨y,hy⟩:∃y,b.dl[k]? =some y:=⟨_,lg0 (by omega)⟩
  conv=>whnf
  repeat' (first|refine zz ?_|refine b8 hx ?_|refine b8 hy ?_|refine zd ?_ ?_<;>intro h<;>try omega|refine zy ?_|fail)<;>conv=>whnf
  ·have hne:x≠y:=‹x≠y›
   refine b9 (decide_eq_false ?_).symm
   rintro ⟨_,hq⟩;rw [hq,hy] at hx;injection hx with hx;exact hne hx.symm
  ·have hxy:x=y:=by omega
   refine ⟨hlt,?_,[],rfl,rfl,trivial,⟨rfl,rfl,rfl,trivial⟩⟩
   rw [a2z hx,a2z hy,hI,hxy]
  all_goals omega
 ·rw [lg4 (by omega),lg4 (by omega)] at hI
  conv=>whnf
  repeat' (first|refine zz ?_|refine zd ?_ ?_<;>intro h<;>try omega|refine zy ?_|fail)<;>conv=>whnf
  all_goals first
   |omega
   |exact b9 (decide_eq_true ⟨h0.1,hI⟩).symm
theorem b8q:T1 .or .i64 0 0 0:=by show (0:Int)=_;decide +kernel
theorem b8V:T1 .or .i64 0 1 1:=by show (1:Int)=_;decide +kernel
theorem b8x:T1 .or .i64 1 0 1:=by show (1:Int)=_;decide +kernel
theorem b8t:T1 .or .i64 1 1 1:=by show (1:Int)=_;decide +kernel
theorem b8B:T1 .or .i64 0 (-1) (-1):=by show (-1:Int)=_;decide +kernel
theorem b8J:T1 .or .i64 (-1) 0 (-1):=by show (-1:Int)=_;decide +kernel
theorem b99:T1 .or .i64 (-1) (-1) (-1):=by show (-1:Int)=_;decide +kernel
set_option maxHeartbeats 4000000 in
theorem b6O (s t:Int) (m n:Nat) (hs:Sg s m) (ht:Sg t n) (lm:(dg m).length<=200000) (ln:(dg n).length<=200000):
 a9 Tryz.prog 113 [bgS ⟨s,dg m⟩,bgS ⟨t,dg n⟩] [] (.tup [bgS (bz (s*m+t*n)),a7 .i64 0]) []:=by
 have r1:=b5J s m hs (by omega)
 have r2:=b5J t n ht (by omega)
 have ad:=b4x m n (by omega) (by omega)
 have c:=b0j m n (by omega) (by omega)
 have ls:=a2Q m n
 have fin:∀(z:Int) (H1:Hp),z=s*m+t*n->Fin 0 (.tup [bgS (bz z),a7 .i64 0]) H1 (.tup [bgS (bz (s*m+t*n)),a7 .i64 0]) []:=fun z H1 h=>a5i (by rw [h])
 rcases hs with ⟨rfl,rfl⟩|⟨rfl,h1⟩|⟨rfl,h1⟩<;>rcases ht with ⟨rfl,rfl⟩|⟨rfl,h2⟩|⟨rfl,h2⟩
 case inl.inl=>
  have sg:=G3 (0) _ (by omega) (D8 ls (by omega))
  (refine ac Tryz.func113 ?_;(conv=>whnf);repeat ((first|refine b0x ?_|refine zy ?_);conv=>whnf))
  repeat' (first|refine zz ?_|refine qp r1 ?_|refine qp r2 ?_|refine qp ad ?_|refine qp sg ?_|refine ⟨_,b8q,?_⟩|refine zd ?_ ?_<;>intro h<;>try omega|refine zy ?_|fail)<;>conv=>whnf
  all_goals first|omega|(exfalso;simp_all;done)|exact fin _ _ (by omega)
 case inl.inr.inl=>
  have sg:=G3 (1) _ (by omega) (D8 ls (by omega))
  (refine ac Tryz.func113 ?_;(conv=>whnf);repeat ((first|refine b0x ?_|refine zy ?_);conv=>whnf))
  repeat' (first|refine zz ?_|refine qp r1 ?_|refine qp r2 ?_|refine qp ad ?_|refine qp sg ?_|refine ⟨_,b8V,?_⟩|refine zd ?_ ?_<;>intro h<;>try omega|refine zy ?_|fail)<;>conv=>whnf
  all_goals first|omega|(exfalso;simp_all;done)|exact fin _ _ (by omega)
 case inl.inr.inr=>
  have sg:=G3 (-1) _ (by omega) (D8 ls (by omega))
  (refine ac Tryz.func113 ?_;(conv=>whnf);repeat ((first|refine b0x ?_|refine zy ?_);conv=>whnf))
  repeat' (first|refine zz ?_|refine qp r1 ?_|refine qp r2 ?_|refine qp ad ?_|refine qp sg ?_|refine ⟨_,b8B,?_⟩|refine zd ?_ ?_<;>intro h<;>try omega|refine zy ?_|fail)<;>conv=>whnf
  all_goals first|omega|(exfalso;simp_all;done)|exact fin _ _ (by omega)
 case inr.inl.inl=>
  have sg:=G3 (1) _ (by omega) (D8 ls (by omega))
  (refine ac Tryz.func113 ?_;(conv=>whnf);repeat ((first|refine b0x ?_|refine zy ?_);conv=>whnf))
  repeat' (first|refine zz ?_|refine qp r1 ?_|refine qp r2 ?_|refine qp ad ?_|refine qp sg ?_|refine ⟨_,b8x,?_⟩|refine zd ?_ ?_<;>intro h<;>try omega|refine zy ?_|fail)<;>conv=>whnf
  all_goals first|omega|(exfalso;simp_all;done)|exact fin _ _ (by omega)
 case inr.inr.inl=>
  have sg:=G3 (-1) _ (by omega) (D8 ls (by omega))
  (refine ac Tryz.func113 ?_;(conv=>whnf);repeat ((first|refine b0x ?_|refine zy ?_);conv=>whnf))
  repeat' (first|refine zz ?_|refine qp r1 ?_|refine qp r2 ?_|refine qp ad ?_|refine qp sg ?_|refine ⟨_,b8J,?_⟩|refine zd ?_ ?_<;>intro h<;>try omega|refine zy ?_|fail)<;>conv=>whnf
  all_goals first|omega|(exfalso;simp_all;done)|exact fin _ _ (by omega)
 case inr.inl.inr.inl=>
  have sg:=G3 (1) _ (by omega) (D8 ls (by omega))
  (refine ac Tryz.func113 ?_;(conv=>whnf);repeat ((first|refine b0x ?_|refine zy ?_);conv=>whnf))
  repeat' (first|refine zz ?_|refine qp r1 ?_|refine qp r2 ?_|refine qp ad ?_|refine qp sg ?_|refine ⟨_,b8t,?_⟩|refine zd ?_ ?_<;>intro h<;>try omega|refine zy ?_|fail)<;>conv=>whnf
  all_goals first|omega|(exfalso;simp_all;done)|exact fin _ _ (by omega)
 case inr.inr.inr.inr=>
  have sg:=G3 (-1) _ (by omega) (D8 ls (by omega))
  (refine ac Tryz.func113 ?_;(conv=>whnf);repeat ((first|refine b0x ?_|refine zy ?_);conv=>whnf))
  repeat' (first|refine zz ?_|refine qp r1 ?_|refine qp r2 ?_|refine qp ad ?_|refine qp sg ?_|refine ⟨_,b99,?_⟩|refine zd ?_ ?_<;>intro h<;>try omega|refine zy ?_|fail)<;>conv=>whnf
  all_goals first|omega|(exfalso;simp_all;done)|exact fin _ _ (by omega)
 case inr.inl.inr.inr=>
  rcases Nat.lt_or_ge m n with hmn|hmn
  ·rw [decide_eq_true hmn] at c
   have l3:=m8 (Nat.sub_le n m)
   (refine ac Tryz.func113 ?_;(conv=>whnf);repeat ((first|refine b0x ?_|refine zy ?_);conv=>whnf))
   repeat' (first|refine zz ?_|refine qp r1 ?_|refine qp r2 ?_|refine qp c ?_|refine qp (a6o n m (by omega) (by omega)) ?_|refine qp (G3 (-1) (n - m) (by omega) (by omega)) ?_|refine zd ?_ ?_<;>intro h<;>try omega|refine zy ?_|fail)<;>conv=>whnf
   all_goals first|omega|(exfalso;simp_all;done)|exact fin _ _ (by omega)
  ·rw [decide_eq_false (Nat.not_lt.2 hmn)] at c
   have l3:=m8 (Nat.sub_le m n)
   (refine ac Tryz.func113 ?_;(conv=>whnf);repeat ((first|refine b0x ?_|refine zy ?_);conv=>whnf))
   repeat' (first|refine zz ?_|refine qp r1 ?_|refine qp r2 ?_|refine qp c ?_|refine qp (a6o m n (by omega) (by omega)) ?_|refine qp (G3 (1) (m - n) (by omega) (by omega)) ?_|refine zd ?_ ?_<;>intro h<;>try omega|refine zy ?_|fail)<;>conv=>whnf
   all_goals first|omega|(exfalso;simp_all;done)|exact fin _ _ (by omega)
 case inr.inr.inr.inl=>
  rcases Nat.lt_or_ge m n with hmn|hmn
  ·rw [decide_eq_true hmn] at c
   have l3:=m8 (Nat.sub_le n m)
   (refine ac Tryz.func113 ?_;(conv=>whnf);repeat ((first|refine b0x ?_|refine zy ?_);conv=>whnf))
   repeat' (first|refine zz ?_|refine qp r1 ?_|refine qp r2 ?_|refine qp c ?_|refine qp (a6o n m (by omega) (by omega)) ?_|refine qp (G3 (1) (n - m) (by omega) (by omega)) ?_|refine zd ?_ ?_<;>intro h<;>try omega|refine zy ?_|fail)<;>conv=>whnf
   all_goals first|omega|(exfalso;simp_all;done)|exact fin _ _ (by omega)
  ·rw [decide_eq_false (Nat.not_lt.2 hmn)] at c
   have l3:=m8 (Nat.sub_le m n)
   (refine ac Tryz.func113 ?_;(conv=>whnf);repeat ((first|refine b0x ?_|refine zy ?_);conv=>whnf))
   repeat' (first|refine zz ?_|refine qp r1 ?_|refine qp r2 ?_|refine qp c ?_|refine qp (a6o m n (by omega) (by omega)) ?_|refine qp (G3 (-1) (m - n) (by omega) (by omega)) ?_|refine zd ?_ ?_<;>intro h<;>try omega|refine zy ?_|fail)<;>conv=>whnf
   all_goals first|omega|(exfalso;simp_all;done)|exact fin _ _ (by omega)
theorem b6u (x y:Int) (lx:bl x<=200000) (ly:bl y<=200000):a9 Tryz.prog 113 [bgS (bz x),bgS (bz y)] [] (.tup [bgS (bz (x+y)),a7 .i64 0]) []:=by
 have h:=b6O _ _ _ _ (a4W x) (a4W y) lx ly
 rw [sgm,sgm] at h
 exact h
set_option maxHeartbeats 2000000 in
theorem b8E (x y:Int) (lx:bl x<=200000) (ly:bl y<=200000):a9 Tryz.prog 115 [bgS (bz x),bgS (bz y)] [] (.tup [bgS (bz (x - y)),a7 .i64 0]) []:=by
 have r:=a02 y (by omega)
 have n:=b8k y (by omega)
 have a:=b6u x (-y) lx (by rw [a12];exact ly)
 rw [← Int.sub_eq_add_neg] at a
 (refine ac Tryz.func115 ?_;(conv=>whnf);repeat ((first|refine b0x ?_|refine zy ?_);conv=>whnf))
 repeat' (first|refine zz ?_|refine qp r ?_|refine qp n ?_|refine qp a ?_|refine qp 6 ?_|refine qp 1 ?_|refine bl0 [6] ?_|refine bl0 [1] ?_|refine zd ?_ ?_<;>intro h<;>try omega|refine zy ?_|fail)<;>conv=>whnf
 all_goals first
  |(exfalso;simp_all;done)
  |exact a5i rfl
theorem b6S (s t:Int) (m n:Nat) (hs:Sg s m) (ht:Sg t n) (lm:(dg m).length<=200000) (ln:(dg n).length<=200000):
 a9 Tryz.prog 112 [bgS ⟨s,dg m⟩,bgS ⟨t,dg n⟩] [] (.tup [bgS (bz ((s*t)*(m*n:Nat))),a7 .i64 0]) []:=by
 have r1:=b5J s m hs (by omega)
 have r2:=b5J t n ht (by omega)
 have mu:=ay6 m n (by omega) (by omega)
 have ls:=a2N m n
 have hst:-1<=s*t∧s*t<=1∧(s*t=1∨s*t=-1∨m*n=0):=by
  rcases hs with ⟨rfl,rfl⟩|⟨rfl,h1⟩|⟨rfl,h1⟩<;>rcases ht with ⟨rfl,rfl⟩|⟨rfl,h2⟩|⟨rfl,h2⟩<;>simp
 obtain ⟨q1,q2,q3⟩:=hst
 have sg:=G3 (s*t) (m*n) q3 (by omega)
 (refine ac Tryz.func112 ?_;(conv=>whnf);repeat ((first|refine b0x ?_|refine zy ?_);conv=>whnf))
 repeat' (first|refine zz ?_|refine qp r1 ?_|refine qp r2 ?_|refine qp mu ?_|refine qp sg ?_|refine ⟨_,y9 (y:=s*t) rfl (by omega) (by omega),?_⟩|refine zd ?_ ?_<;>intro h<;>try omega|refine zy ?_|fail)<;>conv=>whnf
 all_goals first|(exfalso;simp_all;done)|exact a5i rfl
theorem a4S (x y:Int) (lx:bl x<=200000) (ly:bl y<=200000):a9 Tryz.prog 112 [bgS (bz x),bgS (bz y)] [] (.tup [bgS (bz (x*y)),a7 .i64 0]) []:=by
 have h:=b6S _ _ _ _ (a4W x) (a4W y) lx ly
 have e:(x.sign*y.sign)*((x.natAbs*y.natAbs:Nat):Int)=x*y:=by
  rw [Int.natCast_mul]
  have h1:=sgm x
  have h2:=sgm y
  grind
 rw [e] at h
 exact h
theorem b55 {x y:Int} (h:(bz x).sg=(bz y).sg∧(bz x).dl=(bz y).dl):x=y:=by
 have:bz x=bz y:=by
  obtain ⟨h1,h2⟩:=h
  cases hx:bz x with
  |mk a b=>
   cases hy:bz y with
   |mk c d=>rw [hx,hy] at h1 h2;simp only at h1 h2;rw [h1,h2]
 rw [← a3f x,←a3f y,this]
set_option maxHeartbeats 4000000 in
theorem ah8 (x y:Int) (lx:bl x<=300000) (ly:bl y<=300000):a9 Tryz.prog 182 [bgS (bz x),bgS (bz y)] [] (a7 .i64 (J8 x y)) []:=by
 have r1:=a02 x lx
 have r2:=a02 y ly
 have hsx:(bz x).sg=x.sign:=rfl
 have hsy:(bz y).sg=y.sign:=rfl
 have sx:=B2 x
 have sy:=B2 y
 have sm:=b7o (bz x) (bz y) (show bl x<=1000000 by omega) (show bl y<=1000000 by omega)
 by_cases he:x=y
 ·subst he
  have sm:a9 Tryz.prog 245 [bgS (bz x),bgS (bz x)] [] (f5 true) []:=by rw [show decide ((bz x).sg=(bz x).sg∧(bz x).dl=(bz x).dl)=true from decide_eq_true ⟨rfl,rfl⟩] at sm;exact sm
  have e0:J8 x x=0:=by unfold J8;rw [if_neg (by omega),if_neg (by omega)]
  rw [e0]
  (refine ac Tryz.func182 ?_;(conv=>whnf);repeat ((first|refine b0x ?_|refine zy ?_);conv=>whnf))
  repeat' (first|refine zz ?_|refine qp r1 ?_|refine qp r2 ?_|refine qp sm ?_|refine zd ?_ ?_<;>intro h<;>try omega|refine zy ?_|fail)<;>conv=>whnf
  all_goals first
   |(exfalso;simp_all;done)
   |exact i6 rfl
 rw [decide_eq_false (fun h=>he (b55 h))] at sm
 have ls:=b0j x.natAbs y.natAbs lx ly
 rcases Int.lt_or_gt_of_ne he with hlt|hgt
 ·have e1:J8 x y=-1:=by unfold J8;rw [if_pos hlt]
  rw [e1]
  by_cases hl:x.natAbs<y.natAbs
  ·rw [decide_eq_true hl] at ls
   (refine ac Tryz.func182 ?_;(conv=>whnf);repeat ((first|refine b0x ?_|refine zy ?_);conv=>whnf))
   repeat' (first|refine zz ?_|refine qp r1 ?_|refine qp r2 ?_|refine qp sm ?_|refine qp ls ?_|refine zd ?_ ?_<;>intro h<;>try omega|refine zy ?_|fail)<;>conv=>whnf
   all_goals first
    |omega
    |(exfalso;simp_all;done)
    |exact i6 rfl
  ·rw [decide_eq_false hl] at ls
   (refine ac Tryz.func182 ?_;(conv=>whnf);repeat ((first|refine b0x ?_|refine zy ?_);conv=>whnf))
   repeat' (first|refine zz ?_|refine qp r1 ?_|refine qp r2 ?_|refine qp sm ?_|refine qp ls ?_|refine zd ?_ ?_<;>intro h<;>try omega|refine zy ?_|fail)<;>conv=>whnf
   all_goals first
    |omega
    |(exfalso;simp_all;done)
    |exact i6 rfl
 ·have e1:J8 x y=1:=by unfold J8;rw [if_neg (by omega),if_pos (by omega)]
  rw [e1]
  by_cases hl:x.natAbs<y.natAbs
  ·rw [decide_eq_true hl] at ls
   (refine ac Tryz.func182 ?_;(conv=>whnf);repeat ((first|refine b0x ?_|refine zy ?_);conv=>whnf))
   repeat' (first|refine zz ?_|refine qp r1 ?_|refine qp r2 ?_|refine qp sm ?_|refine qp ls ?_|refine zd ?_ ?_<;>intro h<;>try omega|refine zy ?_|fail)<;>conv=>whnf
   all_goals first
    |omega
    |(exfalso;simp_all;done)
    |exact i6 rfl
  ·rw [decide_eq_false hl] at ls
   (refine ac Tryz.func182 ?_;(conv=>whnf);repeat ((first|refine b0x ?_|refine zy ?_);conv=>whnf))
   repeat' (first|refine zz ?_|refine qp r1 ?_|refine qp r2 ?_|refine qp sm ?_|refine qp ls ?_|refine zd ?_ ?_<;>intro h<;>try omega|refine zy ?_|fail)<;>conv=>whnf
   all_goals first
    |omega
    |(exfalso;simp_all;done)
    |exact i6 rfl
theorem b1w {x y:Int}:J8 x y=0↔x=y:=by unfold J8;split<;>(try split)<;>omega
theorem b0f (f:Fr) (lp:f.p.dl.length<=200000) (lq:f.q.dl.length<=200000):a9 Tryz.prog 111 [frS f] [] (f5 (B5 f)) []:=by
 obtain ⟨p,q⟩:=f
 simp only at lp lq
 have r1:=a2K p (by omega)
 have r2:=a2K q (by omega)
 cases hp:G0 p with
 |false=>
  rw [hp] at r1
  (refine ac Tryz.func111 ?_;(conv=>whnf);repeat ((first|refine b0x ?_|refine zy ?_);conv=>whnf))
  repeat' (first|refine zz ?_|refine qp r1 ?_|refine qp r2 ?_|refine zd ?_ ?_<;>intro h<;>try omega|refine zy ?_|fail)<;>conv=>whnf
  all_goals (first|(exfalso;simp_all;done)|(refine b9 ?_;unfold B5;simp [hp]))
 |true=>
  rw [hp] at r1
  cases hq:G0 q with
  |false=>
   rw [hq] at r2
   (refine ac Tryz.func111 ?_;(conv=>whnf);repeat ((first|refine b0x ?_|refine zy ?_);conv=>whnf))
   repeat' (first|refine zz ?_|refine qp r1 ?_|refine qp r2 ?_|refine zd ?_ ?_<;>intro h<;>try omega|refine zy ?_|fail)<;>conv=>whnf
   all_goals (first|(exfalso;simp_all;done)|(refine b9 ?_;unfold B5;simp [hq]))
  |true=>
   rw [hq] at r2
   obtain ⟨x,rfl⟩:=ab0 hp
   obtain ⟨y,rfl⟩:=ab0 hq
   have hsg:(bz y).sg=y.sign:=rfl
   have hsg2:(Fr.mk (bz x) (bz y)).q.sg=y.sign:=rfl
   have sy:=B2 y
   have lg:=a9h x y lp lq
   have g:=b6w x y lp lq
   have o:=b75 1 (by decide) (by decide)
   have c:=ah8 (Int.gcd x y) 1 (by omega) (by have:=o5 (x:=1) (by decide) (by decide);omega)
   have hc:=b1w (x:=Int.gcd x y) (y:=1)
   (refine ac Tryz.func111 ?_;(conv=>whnf);repeat ((first|refine b0x ?_|refine zy ?_);conv=>whnf))
   repeat' (first|refine zz ?_|refine qp r1 ?_|refine qp r2 ?_|refine qp g ?_|refine qp o ?_|refine qp c ?_|refine qp 5 ?_|refine bl0 [5] ?_|refine zd ?_ ?_<;>intro h<;>try omega|refine zy ?_|fail)<;>conv=>whnf
   all_goals first
    |(exfalso;simp_all;done)
    |(refine b9 ?_;unfold B5;simp only [V7,a3f,Bool.true_and];simp;omega)
theorem a8b (x:Rat) (lx:rl x<=200000):a9 Tryz.prog 111 [frS (fz x)] [] (f5 true) []:=by
 have h:=b0f (fz x) (Nat.le_trans (E7 x) lx) (Nat.le_trans (F7 x) lx)
 rw [a6t] at h
 exact h
theorem a9f (x y:Rat):0<(x.den:Int)*y.den:=Int.mul_pos (by have:=x.den_pos;omega) (by have:=y.den_pos;omega)
theorem aG9 (x y:Rat) (lx:rl x<=60000) (ly:rl y<=60000):a9 Tryz.prog 47 [frS (fz x),frS (fz y)] [] (.tup [frS (fz (x+y)),a7 .i64 0]) []:=by
 have r1:=a8b x (by omega)
 have r2:=a8b y (by omega)
 have x1:=E7 x
 have x2:=F7 x
 have y1:=E7 y
 have y2:=F7 y
 have l1:=C7 x.num y.den
 have l2:=C7 y.num x.den
 have l3:=C7 x.den y.den
 have l4:=a6K (x.num*y.den) (y.num*x.den)
 have t1:=a4S x.num y.den (by omega) (by omega)
 have t2:=a4S y.num x.den (by omega) (by omega)
 have t3:=a4S x.den y.den (by omega) (by omega)
 have a:=b6u (x.num*y.den) (y.num*x.den) (by omega) (by omega)
 have n:=b01 (x.num*y.den+y.num*x.den) (x.den*y.den) (a9f x y) (by omega) (by omega)
 rw [← a8s] at n
 (refine ac Tryz.func47 ?_;(conv=>whnf);repeat ((first|refine b0x ?_|refine zy ?_);conv=>whnf))
 repeat' (first|refine zz ?_|refine qp r1 ?_|refine qp r2 ?_|refine qp t1 ?_|refine qp t2 ?_|refine qp t3 ?_|refine qp a ?_|refine qp n ?_|refine qp 7 ?_|refine qp 5 ?_|refine bl0 [7] ?_|refine bl0 [5] ?_|refine zd ?_ ?_<;>intro h<;>try omega|refine zy ?_|fail)<;>conv=>whnf
 all_goals first
  |(exfalso;simp_all;done)
  |exact T5 rfl
theorem b6E (x y:Rat) (lx:rl x<=60000) (ly:rl y<=60000):a9 Tryz.prog 48 [frS (fz x),frS (fz y)] [] (.tup [frS (fz (x - y)),a7 .i64 0]) []:=by
 have r1:=a8b x (by omega)
 have r2:=a8b y (by omega)
 have x1:=E7 x
 have x2:=F7 x
 have y1:=E7 y
 have y2:=F7 y
 have l1:=C7 x.num y.den
 have l2:=C7 y.num x.den
 have l3:=C7 x.den y.den
 have l4:=a6K (x.num*y.den) (-(y.num*x.den))
 rw [a12,←Int.sub_eq_add_neg] at l4
 have t1:=a4S x.num y.den (by omega) (by omega)
 have t2:=a4S y.num x.den (by omega) (by omega)
 have t3:=a4S x.den y.den (by omega) (by omega)
 have a:=b8E (x.num*y.den) (y.num*x.den) (by omega) (by omega)
 have n:=b01 (x.num*y.den - y.num*x.den) (x.den*y.den) (a9f x y) (by omega) (by omega)
 have e:Rat.divInt (x.num*y.den - y.num*x.den) (x.den*y.den)=x - y:=by
  have:=a8s x (-y)
  rw [Rat.neg_num,Rat.neg_den,Int.neg_mul,←Int.sub_eq_add_neg,←Rat.sub_eq_add_neg] at this
  exact this.symm
 rw [e] at n
 (refine ac Tryz.func48 ?_;(conv=>whnf);repeat ((first|refine b0x ?_|refine zy ?_);conv=>whnf))
 repeat' (first|refine zz ?_|refine qp r1 ?_|refine qp r2 ?_|refine qp t1 ?_|refine qp t2 ?_|refine qp t3 ?_|refine qp a ?_|refine qp n ?_|refine qp 7 ?_|refine qp 5 ?_|refine bl0 [7] ?_|refine bl0 [5] ?_|refine zd ?_ ?_<;>intro h<;>try omega|refine zy ?_|fail)<;>conv=>whnf
 all_goals first
  |(exfalso;simp_all;done)
  |exact T5 rfl
theorem b6H (x y:Rat) (lx:rl x<=60000) (ly:rl y<=60000):a9 Tryz.prog 237 [frS (fz x),frS (fz y)] [] (.tup [frS (fz (x*y)),a7 .i64 0]) []:=by
 have r1:=a8b x (by omega)
 have r2:=a8b y (by omega)
 have x1:=E7 x
 have x2:=F7 x
 have y1:=E7 y
 have y2:=F7 y
 have l1:=C7 x.num y.num
 have l3:=C7 x.den y.den
 have t1:=a4S x.num y.num (by omega) (by omega)
 have t3:=a4S x.den y.den (by omega) (by omega)
 have n:=b01 (x.num*y.num) (x.den*y.den) (a9f x y) (by omega) (by omega)
 rw [← av0] at n
 (refine ac Tryz.func237 ?_;(conv=>whnf);repeat ((first|refine b0x ?_|refine zy ?_);conv=>whnf))
 repeat' (first|refine zz ?_|refine qp r1 ?_|refine qp r2 ?_|refine qp t1 ?_|refine qp t3 ?_|refine qp n ?_|refine qp 7 ?_|refine qp 5 ?_|refine bl0 [7] ?_|refine bl0 [5] ?_|refine zd ?_ ?_<;>intro h<;>try omega|refine zy ?_|fail)<;>conv=>whnf
 all_goals first
  |(exfalso;simp_all;done)
  |exact T5 rfl
theorem ah4 (x y:Rat) (lx:rl x<=60000) (ly:rl y<=60000):a9 Tryz.prog 169 [frS (fz x),frS (fz y)] [] (a7 .i64 (Z0 x y)) []:=by
 have r1:=a8b x (by omega)
 have r2:=a8b y (by omega)
 have x1:=E7 x
 have x2:=F7 x
 have y1:=E7 y
 have y2:=F7 y
 have l1:=C7 x.num y.den
 have l2:=C7 y.num x.den
 have t1:=a4S x.num y.den (by omega) (by omega)
 have t2:=a4S y.num x.den (by omega) (by omega)
 have c:=ah8 (x.num*y.den) (y.num*x.den) (by omega) (by omega)
 rw [aE6] at c
 (refine ac Tryz.func169 ?_;(conv=>whnf);repeat ((first|refine b0x ?_|refine zy ?_);conv=>whnf))
 repeat' (first|refine zz ?_|refine qp r1 ?_|refine qp r2 ?_|refine qp t1 ?_|refine qp t2 ?_|refine qp c ?_|refine qp 7 ?_|refine qp 5 ?_|refine bl0 [7] ?_|refine bl0 [5] ?_|refine zd ?_ ?_<;>intro h<;>try omega|refine zy ?_|fail)<;>conv=>whnf
 all_goals first
  |(exfalso;simp_all;done)
  |exact i6 rfl
theorem a0S (x:Rat) (lx:rl x<=60000):a9 Tryz.prog 46 [frS (fz x)] [] (a7 .i64 (sgR x)) []:=by
 have r1:=a8b x (by omega)
 (refine ac Tryz.func46 ?_;(conv=>whnf);repeat ((first|refine b0x ?_|refine zy ?_);conv=>whnf))
 repeat' (first|refine zz ?_|refine qp r1 ?_|refine zd ?_ ?_<;>intro h<;>try omega|refine zy ?_|fail)<;>conv=>whnf
 all_goals first
  |(exfalso;simp_all;done)
  |exact i6 (a5M x)
theorem b21 {α:Type} {f:α->List T} {l:List α} {k:Nat} {u:α} (hu:l[k]? =some u) {Φ:List T->Prop} (h:Φ (f u)):
 ∃row,(0<=bif true then if 0 > ((k+1:Nat):Int) - 1 then 0 else ((k+1:Nat):Int) - 1 else if 0<((k+1:Nat):Int) - 1 then 0 else ((k+1:Nat):Int) - 1)∧
  (l.map f)[(bif true then if 0 > ((k+1:Nat):Int) - 1 then 0 else ((k+1:Nat):Int) - 1 else if 0<((k+1:Nat):Int) - 1 then 0 else ((k+1:Nat):Int) - 1).toNat]? =some row∧Φ row:=by
 have e:(bif true then if 0 > ((k+1:Nat):Int) - 1 then 0 else ((k+1:Nat):Int) - 1 else if 0<((k+1:Nat):Int) - 1 then 0 else ((k+1:Nat):Int) - 1)=(k:Int):=by
  show (if 0 > ((k+1:Nat):Int) - 1 then 0 else ((k+1:Nat):Int) - 1)=_
  rw [if_neg (by omega)];omega
 rw [e]
 exact ⟨f u,by omega,by rw [Int.toNat_natCast,List.getElem?_map,hu];rfl,h⟩
theorem a2v (l:List (Int × Rat)) (n:Int) (hl:l.length<=1000000) (hB:∀t ∈ l,rl t.2<=200):a9 Tryz.prog 167 [n9 l,a7 .i64 n] [] (f5 (decide (0<=n) && f8 (-1) n l)) []:=by
 have m1:(l.map i9).length=l.length:=by simp
 by_cases h0:n<0
 ·rw [decide_eq_false (by omega),Bool.false_and]
  (refine ac Tryz.func167 ?_;(conv=>whnf);repeat ((first|refine b0x ?_|refine zy ?_);conv=>whnf))
  repeat' (first|refine zz ?_|refine zd ?_ ?_<;>intro h<;>try omega|refine zy ?_|fail)<;>conv=>whnf
  all_goals first
   |omega
   |exact b9 rfl
 rw [decide_eq_true (by omega),Bool.true_and]
 (refine ac Tryz.func167 ?_;(conv=>whnf);repeat ((first|refine b0x ?_|refine zy ?_);conv=>whnf))
 repeat' (first|refine zz ?_|refine zd ?_ ?_<;>intro h<;>try omega|refine zy ?_|fail)<;>conv=>whnf
 all_goals try omega
 refine d6 c8 (fun k=>([n9 l,a7 .i64 n,J,J,J,a7 .i64 k,J,J,J,J,J,J,J,J,J,J,J,J,J,J,J,J,J,J,J,J,J,J,J,J,J,J,J,J,J,J,J,J,J,J,J,J,J,J,J,J,J,J,J,J,J,J,J,J,J,J,J,J,J,J,J,J,J,J,J],[])) l.length (fun k=>f8 (-1) n l=f8 (a20 l k) n (l.drop k)∧-1<=a20 l k) [] ⟨rfl,Int.le_refl _⟩
  ⟨rfl,rfl,trivial,⟨rfl,rfl,rfl,trivial⟩⟩ ?_
 rintro k hk ⟨hI,hJ⟩
 by_cases hlt:k<l.length
 ·obtain ⟨t,ht⟩:∃t,l[k]? =some t:=⟨_,lg0 hlt⟩
  obtain ⟨v,c⟩:=t
  have bc:=hB _ (lg2 ht)
  simp only at bc
  have rr:=a8b c (by omega)
  have sz:(fz c).p.sg=0↔c=0:=by
   show c.num.sign=0↔c=0
   rw [Int.sign_eq_zero_iff_zero]
   exact Rat.num_eq_zero
  rw [X0 ht,f8] at hI
  simp only at hI
  by_cases hok:a20 l k<v∧v<n∧c≠0
  ·rw [decide_eq_true hok.1,decide_eq_true hok.2.1,decide_eq_true hok.2.2] at hI
   simp only [Bool.true_and] at hI
   have hne:(fz (v,c).2).p.sg≠0:=fun h=>hok.2.2 (sz.1 h)
   obtain ⟨q1,q2,_⟩:=hok
   cases k with
   |zero=>
    conv=>whnf
    repeat' (first|refine zz ?_|refine qp rr ?_|refine b8 ht ?_|refine zd ?_ ?_<;>intro h<;>try omega|refine zy ?_|fail)<;>conv=>whnf
    all_goals first
     |omega
     |exact ⟨hlt,⟨by rw [O6 ht];exact hI,by rw [O6 ht];simp only;omega⟩,[],rfl,rfl,trivial,⟨rfl,rfl,rfl,trivial⟩⟩
   |succ k=>
    obtain ⟨u,hu⟩:∃u,l[k]? =some u:=⟨_,lg0 (by omega)⟩
    rw [O6 hu] at q1 hJ
    conv=>whnf
    repeat' (first|refine zz ?_|refine qp rr ?_|refine b8 ht ?_|refine b21 hu ?_|refine zd ?_ ?_<;>intro h<;>try omega|refine zy ?_|fail)<;>conv=>whnf
    all_goals first
     |omega
     |exact ⟨hlt,⟨by rw [O6 ht];exact hI,by rw [O6 ht];simp only;omega⟩,[],rfl,rfl,trivial,⟨rfl,rfl,rfl,trivial⟩⟩
  ·have hF:f8 (-1) n l=false:=by
    rw [hI]
    rw [← Bool.not_eq_true]
    simp only [Bool.and_eq_true,decide_eq_true_eq]
    exact fun h=>hok ⟨h.1.1.1,h.1.1.2,h.1.2⟩
   rw [hF]
   have hor:v<=a20 l k∨n<=v∨(fz (v,c).2).p.sg=0:=by
    by_cases q1:a20 l k<v
    ·by_cases q2:v<n
     ·refine .inr (.inr (sz.2 ?_))
      by_cases q3:c=0
      ·exact q3
      ·exact absurd ⟨q1,q2,q3⟩ hok
     ·exact .inr (.inl (by omega))
    ·exact .inl (by omega)
   clear hI hok
   cases k with
   |zero=>
    have e0:a20 l 0=-1:=rfl
    conv=>whnf
    repeat' (first|refine zz ?_|refine qp rr ?_|refine b8 ht ?_|refine zd ?_ ?_<;>intro h<;>try omega|refine zy ?_|fail)<;>conv=>whnf
    all_goals first
     |omega
     |exact b9 rfl
   |succ k=>
    obtain ⟨u,hu⟩:∃u,l[k]? =some u:=⟨_,lg0 (by omega)⟩
    rw [O6 hu] at hor
    conv=>whnf
    repeat' (first|refine zz ?_|refine qp rr ?_|refine b8 ht ?_|refine b21 hu ?_|refine zd ?_ ?_<;>intro h<;>try omega|refine zy ?_|fail)<;>conv=>whnf
    all_goals first
     |omega
     |exact b9 rfl
 ·rw [List.drop_of_length_le (by omega)] at hI
  have hI:f8 (-1) n l=true:=hI
  rw [hI]
  conv=>whnf
  repeat' (first|refine zz ?_|refine zd ?_ ?_<;>intro h<;>try omega|refine zy ?_|fail)<;>conv=>whnf
  all_goals first
   |omega
   |exact b9 rfl
theorem b9c (w:B1) (n:Int) (hl:w.terms.length<=1000000) (hB:∀t ∈ w.terms,rl t.2<=200) (hv:rl w.value<=200):a9 Tryz.prog 269 [az2 w,a7 .i64 n] [] (f5 (decide (0<=n) && t9 n w)) []:=by
 have rt:=a2v w.terms n hl hB
 have rv:=a8b w.value (by omega)
 unfold t9
 cases h1:decide (0<=n)<;>cases h2:f8 (-1) n w.terms<;>rw [h1,h2] at rt<;>
 ·(refine ac Tryz.func269 ?_;(conv=>whnf);repeat ((first|refine b0x ?_|refine zy ?_);conv=>whnf))
  repeat' (first|refine zz ?_|refine qp rt ?_|refine qp rv ?_|refine zd ?_ ?_<;>intro h<;>try omega|refine zy ?_|fail)<;>conv=>whnf
  all_goals first
   |(exfalso;simp_all;done)
   |(refine b9 ?_;simp;done)
   |(refine b9 ?_;simp;omega)
theorem ap7 (s:f7) (hb:aD8 s):a9 Tryz.prog 218 [a2i s] [] (f5 (i8 s)) []:=by
 have m1:(s.rows.map w5).length=s.rows.length:=by simp
 have l1:=hb.n0
 by_cases h0:¬(0<=s.n∧s.n<=1500∧s.rows.length<=6000)
 ·have e1:i8 s=false:=by
   unfold i8
   rw [← Bool.not_eq_true]
   simp only [Bool.and_eq_true,decide_eq_true_eq]
   exact fun h=>h0 ⟨h.1.1.1,h.1.1.2,h.1.2⟩
  rw [e1]
  (refine ac Tryz.func218 ?_;(conv=>whnf);repeat ((first|refine b0x ?_|refine zy ?_);conv=>whnf))
  repeat' (first|refine zz ?_|refine zd ?_ ?_<;>intro h<;>try omega|refine zy ?_|fail)<;>conv=>whnf
  all_goals first
   |omega
   |exact b9 rfl
 obtain ⟨c1,c2,c3⟩:=Decidable.not_not.1 h0
 have e1:i8 s=s.rows.all (t9 s.n):=by
  unfold i8
  rw [decide_eq_true c1,decide_eq_true c2,decide_eq_true c3];rfl
 rw [e1]
 clear h0
 (refine ac Tryz.func218 ?_;(conv=>whnf);repeat ((first|refine b0x ?_|refine zy ?_);conv=>whnf))
 repeat' (first|refine zz ?_|refine zd ?_ ?_<;>intro h<;>try omega|refine zy ?_|fail)<;>conv=>whnf
 all_goals try omega
 refine d6 c8 (fun k=>([J,S.c (C.t (T.ptr [ti s.n,M3 s.rows])),J,a7 .i64 k,J,J,J,J,J,J,J,J,J,J,J,J,J,J,J,J,J,J,J,J,J,J,J,J,J,J,J,J,J,J],[])) s.rows.length (fun k=>(s.rows.take k).all (t9 s.n)=true) [] rfl
  ⟨rfl,rfl,trivial,⟨rfl,rfl,trivial⟩⟩ ?_
 intro k hk hI
 by_cases hlt:k<s.rows.length
 ·obtain ⟨w,hw⟩:∃w,s.rows[k]? =some w:=⟨_,lg0 hlt⟩
  obtain ⟨b1,b2,b3⟩:=hb.t w (lg2 hw)
  have rt:=b9c w s.n (by omega) b2 b3
  rw [decide_eq_true c1,Bool.true_and] at rt
  cases hrt:t9 s.n w with
  |false=>
   rw [hrt] at rt
   rw [u9 hw hrt]
   conv=>whnf
   repeat' (first|refine zz ?_|refine qp rt ?_|refine b8 hw ?_|refine zd ?_ ?_<;>intro h<;>try omega|refine zy ?_|fail)<;>conv=>whnf
   all_goals first
    |omega
    |(exfalso;simp_all;done)
    |exact b9 rfl
  |true=>
   rw [hrt] at rt
   conv=>whnf
   repeat' (first|refine zz ?_|refine qp rt ?_|refine b8 hw ?_|refine zd ?_ ?_<;>intro h<;>try omega|refine zy ?_|fail)<;>conv=>whnf
   all_goals first
    |omega
    |(exfalso;simp_all;done)
    |exact ⟨hlt,by rw [p7 hw,hI,hrt];rfl,[],rfl,rfl,trivial,⟨rfl,rfl,trivial⟩⟩
 ·rw [lg4 (by omega)] at hI
  rw [hI]
  conv=>whnf
  repeat' (first|refine zz ?_|refine zd ?_ ?_<;>intro h<;>try omega|refine zy ?_|fail)<;>conv=>whnf
  all_goals first
   |omega
   |exact b9 rfl
theorem b50 (z:List Fr) (hl:z.length<=1000000) (hd:∀f ∈ z,f.p.dl.length<=200000∧f.q.dl.length<=200000):a9 Tryz.prog 219 [j8 z] [] (f5 (z.all B5)) []:=by
 have m1:(z.map j5).length=z.length:=by simp
 (refine ac Tryz.func219 ?_;(conv=>whnf);repeat ((first|refine b0x ?_|refine zy ?_);conv=>whnf))
 repeat' (first|refine zz ?_|refine zd ?_ ?_<;>intro h<;>try omega|refine zy ?_|fail)<;>conv=>whnf
 refine d6 c8 (fun k=>([j8 z,J,J,a7 .i64 k,J,J,J,J,J,J,J,J,J,J,J,J],[])) z.length (fun k=>(z.take k).all B5=true) [] rfl
  ⟨rfl,rfl,trivial,⟨rfl,rfl,trivial⟩⟩ ?_
 intro k hk hI
 by_cases hlt:k<z.length
 ·obtain ⟨f,hf⟩:∃f,z[k]? =some f:=⟨_,lg0 hlt⟩
  have q:=hd f (lg2 hf)
  have rr:=b0f f q.1 q.2
  cases hff:B5 f with
  |true=>
   rw [hff] at rr
   conv=>whnf
   repeat' (first|refine zz ?_|refine qp rr ?_|refine b8 hf ?_|refine zd ?_ ?_<;>intro h<;>try omega|refine zy ?_|fail)<;>conv=>whnf
   all_goals first
    |omega
    |exact ⟨hlt,by rw [p7 hf,hI,hff];rfl,[],rfl,rfl,trivial,⟨rfl,rfl,trivial⟩⟩
  |false=>
   rw [hff] at rr
   rw [u9 hf hff]
   conv=>whnf
   repeat' (first|refine zz ?_|refine qp rr ?_|refine b8 hf ?_|refine zd ?_ ?_<;>intro h<;>try omega|refine zy ?_|fail)<;>conv=>whnf
   all_goals first
    |omega
    |exact b9 rfl
 ·rw [lg4 (by omega)] at hI
  rw [hI]
  conv=>whnf
  repeat' (first|refine zz ?_|refine zd ?_ ?_<;>intro h<;>try omega|refine zy ?_|fail)<;>conv=>whnf
  all_goals first
   |omega
   |exact b9 rfl
theorem aE1 (z:List Rat) (hl:z.length<=1000000) (hd:∀v ∈ z,rl v<=200000):a9 Tryz.prog 219 [j8 (z.map fz)] [] (f5 true) []:=by
 have pt:=b50 (z.map fz) (by simpa using hl) (fun f hf=>by
  obtain ⟨x,hx,rfl⟩:=List.mem_map.1 hf
  have:=hd x hx
  have a:=E7 x
  have b:=F7 x
  exact ⟨by show bl x.num<=_;omega,by show bl x.den<=_;omega⟩)
 rw [a74] at pt
 exact pt
set_option maxHeartbeats 1000000 in
theorem b6h (l:List (Int × Rat)) (z:List Rat) (hl:l.length<=1000000) (h1:∀t ∈ l,rl t.2<=200) (h2:∀v ∈ z,rl v<=40000) (hS:∀k,rl (k7 (l.take k) z)<=60000) (hz:z.length<=1000000) (hr:f8 (-1) z.length l=true):
 a9 Tryz.prog 165 [n9 l,j8 (z.map fz)] [] (.tup [frS (fz (k7 l z)),f5 true]) []:=by
 have m1:(l.map i9).length=l.length:=by simp
 have m2:((z.map fz).map j5).length=z.length:=by simp
 have i0:=a2b 0 (by decide) (by decide)
 have rt:=a2v l z.length hl h1
 rw [decide_eq_true (by omega),hr] at rt
 have rt2:a9 Tryz.prog 167 [n9 l,a7 .i64 (((z.map fz).map j5).length:Nat)] [] (f5 (true && true)) []:=by rw [m2];exact rt
 have pt:=aE1 z hz (fun v hv=>by have:=h2 v hv;omega)
 (refine ac Tryz.func165 ?_;(conv=>whnf);repeat ((first|refine b0x ?_|refine zy ?_);conv=>whnf))
 repeat' (first|refine zz ?_|refine qp rt2 ?_|refine qp pt ?_|refine qp i0 ?_|refine zd ?_ ?_<;>intro h<;>try omega|refine zy ?_|fail)<;>conv=>whnf
 all_goals try (exfalso;simp_all;done)
 refine d6 c8 (fun k=>([n9 l,j8 (z.map fz),J,J,S.c (C.ptr 0 0 0),J,S.c (C.ptr 1 0 0),a7 .i64 k,J,J,J,J,J,J,J,J,J,J,J,J,J,J,J,J,J,J,J,J,J,J,J,J,J,J,J,J,J,J,J,J,J,J,J,J,J,J,J,J,J,J,J,J],[frB M5,frB (fz (k7 (l.take k) z))])) l.length (fun _=>True) [some 0,some 1] trivial
  ⟨rfl,rfl,⟨⟨rfl,rfl,rfl,.inr ⟨⟨rfl,rfl,rfl,rfl,trivial⟩,trivial⟩⟩,⟨rfl,rfl,rfl,.inl ⟨rfl,K9 _⟩⟩,trivial⟩,⟨rfl,rfl,⟨rfl,rfl,rfl⟩,⟨rfl,rfl,rfl⟩,rfl,trivial⟩⟩ ?_
 intro k hk _
 by_cases hlt:k<l.length
 ·obtain ⟨t,ht⟩:∃t,l[k]? =some t:=⟨_,lg0 hlt⟩
  obtain ⟨v,c⟩:=t
  have hv:=a6X hr _ (lg2 ht)
  simp only at hv
  have bc:=h1 _ (lg2 ht)
  simp only at bc
  obtain ⟨x,hx⟩:∃x,z[v.toNat]? =some x:=⟨_,lg0 (by omega)⟩
  have hxd:z.getD v.toNat 0=x:=by rw [lg3,hx];rfl
  have bx:=h2 x (lg2 hx)
  have b3:=a2Y c x
  have bs:=hS k
  have mu:=b6H c x (by omega) (by omega)
  have ad:=aG9 (k7 (l.take k) z) (c*x) (by omega) (by omega)
  have e:k7 (l.take k) z+c*x=k7 (l.take (k+1)) z:=by
   have:l.take (k+1)=l.take k++[(v,c)]:=by rw [List.take_add_one,ht];rfl
   rw [this,P9,←hxd]
  rw [e] at ad
  have xz:(z.map fz)[v.toNat]? =some (fz x):=by rw [List.getElem?_map,hx];rfl
  conv=>whnf
  repeat' (first|refine zz ?_|refine qp mu ?_|refine qp ad ?_|refine qp 16 ?_|refine qp 5 ?_|refine b8 ht ?_|refine p4 (by omega) xz ?_|refine bl0 [16] ?_|refine bl0 [5] ?_|refine zd ?_ ?_<;>intro h<;>try omega|refine zy ?_|fail)<;>conv=>whnf
  all_goals first
   |omega
   |exact ⟨hlt,trivial,[some 0,some 1],rfl,rfl,⟨⟨rfl,rfl,rfl,.inl ⟨rfl,K9 _⟩⟩,⟨rfl,rfl,rfl,.inl ⟨rfl,K9 _⟩⟩,trivial⟩,⟨rfl,rfl,⟨rfl,rfl,rfl⟩,⟨rfl,rfl,rfl⟩,rfl,trivial⟩⟩
 ·have hke:k=l.length:=by omega
  subst hke
  rw [lg4 (Nat.le_refl _)]
  conv=>whnf
  repeat' (first|refine zz ?_|refine zd ?_ ?_<;>intro h<;>try omega|refine zy ?_|fail)<;>conv=>whnf
  all_goals first
   |omega
   |exact k5 ⟨⟨rfl,rfl,rfl,rfl,trivial⟩,rfl,trivial⟩
structure PtB (s:f7) (z:List Rat):Prop where
 v:∀v ∈ z,rl v<=40000
 S:∀w ∈ s.rows,∀k,rl (k7 (w.terms.take k) z)<=50000
 l:z.length<=1000000
theorem aL1 (w:B1) (z:List Rat) (hl:w.terms.length<=1000000) (h1:∀t ∈ w.terms,rl t.2<=200) (h3:rl w.value<=200) (h2:∀v ∈ z,rl v<=40000) (hS:∀k,rl (k7 (w.terms.take k) z)<=50000) (hz:z.length<=1000000)
 (hr:f8 (-1) z.length w.terms=true):a9 Tryz.prog 220 [az2 w,j8 (z.map fz)] [] (f5 (Q7 w z)) []:=by
 have va:=b6h w.terms z hl h1 h2 (fun k=>by have:=hS k;omega) hz hr
 have bv:=hS w.terms.length
 rw [lg4 (Nat.le_refl _)] at bv
 have c:=ah4 (k7 w.terms z) w.value (by omega) (by omega)
 have k1:=a5E (x:=k7 w.terms z) (y:=w.value)
 have k2:=a6a (x:=k7 w.terms z) (y:=w.value)
 have hro:=a2l (w:=w) (z:=z)
 rw [← k1,←k2] at hro
 have e:f5 (Q7 w z)=f5 (decide ((Z0 (k7 w.terms z) w.value<0->w.kind=1)∧(Z0 (k7 w.terms z) w.value > 0->w.kind=0))):=by
  congr 1
  rw [Bool.eq_iff_iff,hro,decide_eq_true_iff]
 rw [e]
 clear hro e k1 k2
 generalize Z0 (k7 w.terms z) w.value=U at c
 (refine ac Tryz.func220 ?_;(conv=>whnf);repeat ((first|refine b0x ?_|refine zy ?_);conv=>whnf))
 repeat' (first|refine zz ?_|refine qp va ?_|refine qp c ?_|refine qp 5 ?_|refine bl0 [5] ?_|refine zd ?_ ?_<;>intro h<;>try omega|refine zy ?_|fail)<;>conv=>whnf
 all_goals first
  |omega
  |(exfalso;simp_all;done)
  |(refine b9 ?_;simp;omega)
theorem b5w (s:f7) (hb:aD8 s) (hr:i8 s=true) (Z:List Rat) (hp:PtB s Z):
 a9 Tryz.prog 144 [a2i s,j8 (Z.map fz)] [] (f5 (j7 s Z)) []:=by
 have m1:(s.rows.map w5).length=s.rows.length:=by simp
 have m2:((Z.map fz).map j5).length=Z.length:=by simp
 have l1:=hb.n0
 have l2:=hp.l
 have lr:=ap7 s hb
 rw [hr] at lr
 have pt:=aE1 Z hp.l (fun v hv=>by have:=hp.v v hv;omega)
 by_cases hn:(Z.length:Int)≠s.n
 ·have e2:j7 s Z=false:=by unfold j7;rw [decide_eq_false hn];simp
  rw [e2]
  (refine ac Tryz.func144 ?_;(conv=>whnf);repeat ((first|refine b0x ?_|refine zy ?_);conv=>whnf))
  repeat' (first|refine zz ?_|refine qp lr ?_|refine qp pt ?_|refine zd ?_ ?_<;>intro h<;>try omega|refine zy ?_|fail)<;>conv=>whnf
  all_goals first
   |omega
   |exact b9 rfl
 have hn:(Z.length:Int)=s.n:=by omega
 have e2:j7 s Z=(Z.all (fun v=>decide (0<=v)) && s.rows.all (fun w=>Q7 w Z)):=by unfold j7;rw [hr,decide_eq_true hn];simp
 rw [e2]
 (refine ac Tryz.func144 ?_;(conv=>whnf);repeat ((first|refine b0x ?_|refine zy ?_);conv=>whnf))
 repeat' (first|refine zz ?_|refine qp lr ?_|refine qp pt ?_|refine zd ?_ ?_<;>intro h<;>try omega|refine zy ?_|fail)<;>conv=>whnf
 all_goals try omega
 refine d6 c8 (fun k=>([J,j8 (Z.map fz),S.c (C.t (T.ptr [ti s.n,M3 s.rows])),J,J,a7 .i64 k,J,J,J,J,J,J,J,J,J,J,J,J,J,J,J,J,J,J,J,J,J,J,J,J,J,J,J,J,J,J,J,J,J,J,J,J,J,J,J,J,J,J,J],[])) Z.length (fun k=>(Z.take k).all (fun v=>decide (0<=v))=true) [] rfl
  ⟨rfl,rfl,trivial,⟨rfl,rfl,rfl,trivial⟩⟩ ?_
 intro k hk hI
 by_cases hlt:k<Z.length
 ·obtain ⟨x,hx⟩:∃x,Z[k]? =some x:=⟨_,lg0 hlt⟩
  have bx:=hp.v x (lg2 hx)
  have sg:=a0S x (by omega)
  have sn:=aY0 (x:=x)
  conv=>whnf
  repeat' (first|refine zz ?_|refine qp sg ?_|refine b8 (a17 Z hx) ?_|refine zd ?_ ?_<;>intro h<;>try omega|refine zy ?_|fail)<;>conv=>whnf
  all_goals first
   |omega
   |(have h0:¬sgR x<0:=by omega
     exact ⟨hlt,by rw [p7 hx,hI];simpa using Rat.not_lt.1 (fun h=>h0 (sn.2 h)),[],rfl,rfl,trivial,⟨rfl,rfl,rfl,trivial⟩⟩)
   |(have h0:sgR x<0:=by omega
     have hF:Z.all (fun v=>decide (0<=v))=false:=u9 hx (decide_eq_false (Rat.not_le.2 (sn.1 h0)))
     refine b9 ?_;rw [hF];rfl)
 ·have hA:Z.all (fun v=>decide (0<=v))=true:=by rw [← hI,lg4 (by omega)]
  rw [hA,Bool.true_and]
  conv=>whnf
  repeat' (first|refine zz ?_|refine zd ?_ ?_<;>intro h<;>try omega|refine zy ?_|fail)<;>conv=>whnf
  all_goals try omega
  clear hI hlt hk
  refine d6 c8 (fun k=>([J,j8 (Z.map fz),S.c (C.t (T.ptr [ti s.n,M3 s.rows])),J,J,J,a7 .i64 k,J,J,J,J,J,J,J,J,J,J,J,J,J,J,J,J,J,J,J,J,J,J,J,J,J,J,J,J,J,J,J,J,J,J,J,J,J,J,J,J,J,J],[])) s.rows.length (fun k=>(s.rows.take k).all (fun w=>Q7 w Z)=true) [] rfl
   ⟨rfl,rfl,trivial,⟨rfl,rfl,rfl,trivial⟩⟩ ?_
  intro k hk hI
  by_cases hlt:k<s.rows.length
  ·obtain ⟨w,hw⟩:∃w,s.rows[k]? =some w:=⟨_,lg0 hlt⟩
   obtain ⟨b1,b2,b3⟩:=hb.t w (lg2 hw)
   have hrw:t9 s.n w=true:=by
    unfold i8 at hr
    simp only [Bool.and_eq_true,List.all_eq_true] at hr
    exact hr.2 w (lg2 hw)
   have hrt:f8 (-1) Z.length w.terms=true:=by
    unfold t9 at hrw
    simp only [Bool.and_eq_true] at hrw
    rw [hn];exact hrw.1.1
   have ho:=aL1 w Z (by omega) b2 b3 hp.v (hp.S w (lg2 hw)) hp.l hrt
   cases hro:Q7 w Z with
   |true=>
    rw [hro] at ho
    conv=>whnf
    repeat' (first|refine zz ?_|refine qp ho ?_|refine b8 hw ?_|refine zd ?_ ?_<;>intro h<;>try omega|refine zy ?_|fail)<;>conv=>whnf
    all_goals first
     |omega
     |exact ⟨hlt,by rw [p7 hw,hI,hro];rfl,[],rfl,rfl,trivial,⟨rfl,rfl,rfl,trivial⟩⟩
   |false=>
    rw [hro] at ho
    rw [u9 hw hro]
    conv=>whnf
    repeat' (first|refine zz ?_|refine qp ho ?_|refine b8 hw ?_|refine zd ?_ ?_<;>intro h<;>try omega|refine zy ?_|fail)<;>conv=>whnf
    all_goals first
     |omega
     |exact b9 rfl
  ·rw [lg4 (by omega)] at hI
   rw [hI]
   conv=>whnf
   repeat' (first|refine zz ?_|refine zd ?_ ?_<;>intro h<;>try omega|refine zy ?_|fail)<;>conv=>whnf
   all_goals first
    |omega
    |exact b9 rfl
theorem aX4 (Y:List Rat) (n:Nat) (hl:Y.length<=1000000) (h:∀v ∈ Y,rl v<=200000):a9 Tryz.prog 238 [j8 (Y.map fz),a7 .i64 n] [] (f5 (decide (Y.length=n))) []:=by
 have m2:((Y.map fz).map j5).length=Y.length:=by simp
 (refine ac Tryz.func238 ?_;(conv=>whnf);repeat ((first|refine b0x ?_|refine zy ?_);conv=>whnf))
 repeat' (first|refine zz ?_|refine zd ?_ ?_<;>intro h<;>try omega|refine zy ?_|fail)<;>conv=>whnf
 refine d6 c8 (fun k=>([j8 (Y.map fz),a7 .i64 n,J,J,J,a7 .i64 k,J,J,J,J,J,J,J,J,J,J,J,J,J,J,J,J],[])) Y.length (fun _=>True) [] trivial
  ⟨rfl,rfl,trivial,⟨rfl,rfl,rfl,trivial⟩⟩ ?_
 intro k hk _
 by_cases hlt:k<Y.length
 ·obtain ⟨x,hx⟩:∃x,Y[k]? =some x:=⟨_,lg0 hlt⟩
  have bx:=h x (lg2 hx)
  have rr:=a8b x (by omega)
  conv=>whnf
  repeat' (first|refine zz ?_|refine qp rr ?_|refine b8 (a17 Y hx) ?_|refine zd ?_ ?_<;>intro h<;>try omega|refine zy ?_|fail)<;>conv=>whnf
  all_goals first
   |omega
   |(exfalso;simp_all;done)
   |exact ⟨hlt,trivial,[],rfl,rfl,trivial,⟨rfl,rfl,rfl,trivial⟩⟩
 ·conv=>whnf
  repeat' (first|refine zz ?_|refine zd ?_ ?_<;>intro h<;>try omega|refine zy ?_|fail)<;>conv=>whnf
  all_goals first
   |omega
   |(refine b9 (decide_eq_true ?_).symm;omega)
   |(refine b9 (decide_eq_false ?_).symm;omega)
def yN (Y:List Rat) (i:Nat):Rat:=Y.getD i 0
theorem aM7 {Y:List Rat} {k:Nat} {x:Rat} (h:Y[k]? =some x):yN Y k=x:=by unfold yN;rw [lg3,h];rfl
def sgB (s:f7) (Y:List Rat) (i:Nat):Bool:=!((decide ((w6 s i).kind=0) && decide (yN Y i<0)) || (decide ((w6 s i).kind=1) && decide (0<yN Y i)))
def a3e (s:f7) (Y:List Rat):Bool:=decide (Y.length=s.rows.length) && (List.range s.rows.length).all (sgB s Y)
theorem a4A {n k:Nat} (h:k<n):(List.range n)[k]? =some k:=by simp [h]
theorem a3W {f:Nat->Bool} {k:Nat}:(List.range (k+1)).all f=((List.range k).all f && f k):=by rw [List.range_succ,List.all_append];simp
theorem a6c {f:Nat->Bool} {n k:Nat} (h:k<n) (hf:f k=false):(List.range n).all f=false:=u9 (a4A h) hf
theorem b3e (s:f7) (hb:aD8 s) (hr:i8 s=true) (Y:List Rat) (hl:Y.length<=1000000) (hy:∀v ∈ Y,rl v<=50000):
 a9 Tryz.prog 166 [a2i s,j8 (Y.map fz)] [] (f5 (a3e s Y)) []:=by
 have m1:(s.rows.map w5).length=s.rows.length:=by simp
 have m2:((Y.map fz).map j5).length=Y.length:=by simp
 have l1:=hb.n0
 have lr:=ap7 s hb
 rw [hr] at lr
 have fr:=aX4 Y s.rows.length hl (fun v hv=>by have:=hy v hv;omega)
 have fr2:a9 Tryz.prog 238 [j8 (Y.map fz),a7 .i64 ((s.rows.map w5).length:Nat)] [] (f5 (decide (Y.length=s.rows.length))) []:=by rw [m1];exact fr
 by_cases hn:Y.length≠s.rows.length
 ·have e2:a3e s Y=false:=by unfold a3e;rw [decide_eq_false hn];simp
  rw [decide_eq_false hn] at fr2
  rw [e2]
  (refine ac Tryz.func166 ?_;(conv=>whnf);repeat ((first|refine b0x ?_|refine zy ?_);conv=>whnf))
  repeat' (first|refine zz ?_|refine qp lr ?_|refine qp fr2 ?_|refine zd ?_ ?_<;>intro h<;>try omega|refine zy ?_|fail)<;>conv=>whnf
  all_goals first
   |omega
   |(exfalso;simp_all;done)
   |exact b9 rfl
 have hn:Y.length=s.rows.length:=by omega
 have e2:a3e s Y=(List.range s.rows.length).all (sgB s Y):=by unfold a3e;rw [decide_eq_true hn];simp
 rw [e2]
 rw [decide_eq_true hn] at fr2
 (refine ac Tryz.func166 ?_;(conv=>whnf);repeat ((first|refine b0x ?_|refine zy ?_);conv=>whnf))
 repeat' (first|refine zz ?_|refine qp lr ?_|refine qp fr2 ?_|refine zd ?_ ?_<;>intro h<;>try omega|refine zy ?_|fail)<;>conv=>whnf
 all_goals try (exfalso;simp_all;done)
 refine d6 c8 (fun k=>([J,j8 (Y.map fz),S.c (C.t (T.ptr [ti s.n,M3 s.rows])),J,J,a7 .i64 k,J,J,J,J,J,J,J,J,J,J,J,J,J,J,J,J,J,J,J,J,J,J,J,J,J,J,J,J,J,J,J,J,J,J,J,J,J,J,J,J,J,J,J,J,J,J,J],[])) Y.length (fun k=>(List.range k).all (sgB s Y)=true) [] rfl
  ⟨rfl,rfl,trivial,⟨rfl,rfl,rfl,trivial⟩⟩ ?_
 intro k hk hI
 by_cases hlt:k<Y.length
 ·obtain ⟨x,hx⟩:∃x,Y[k]? =some x:=⟨_,lg0 hlt⟩
  obtain ⟨w,hw⟩:∃w,s.rows[k]? =some w:=⟨_,lg0 (by omega)⟩
  have bx:=hy x (lg2 hx)
  have sg:=a0S x (by omega)
  have es:sgB s Y k=decide ((w.kind=0->¬sgR x<0)∧(w.kind=1->¬sgR x > 0)):=by
   unfold sgB
   rw [L3 hw,aM7 hx,Bool.eq_iff_iff,decide_eq_true_iff,a3Z,b2e]
   simp
   grind
  generalize sgR x=U at sg es
  by_cases hok:(w.kind=0->¬U<0)∧(w.kind=1->¬U > 0)
  ·rw [decide_eq_true hok] at es
   obtain ⟨q1,q2⟩:=hok
   conv=>whnf
   repeat' (first|refine zz ?_|refine qp sg ?_|refine b8 (a17 Y hx) ?_|refine b8 hw ?_|refine zd ?_ ?_<;>intro h<;>try omega|refine zy ?_|fail)<;>conv=>whnf
   all_goals first
    |omega
    |exact ⟨hlt,by rw [a3W,hI,es];rfl,[],rfl,rfl,trivial,⟨rfl,rfl,rfl,trivial⟩⟩
  ·rw [decide_eq_false hok] at es
   rw [a6c (n:=s.rows.length) (by omega) es]
   have hor:(w.kind=0∧U<0)∨(w.kind=1∧U > 0):=by omega
   clear hok
   conv=>whnf
   repeat' (first|refine zz ?_|refine qp sg ?_|refine b8 (a17 Y hx) ?_|refine b8 hw ?_|refine zd ?_ ?_<;>intro h<;>try omega|refine zy ?_|fail)<;>conv=>whnf
   all_goals first
    |omega
    |exact b9 rfl
 ·have hke:k=s.rows.length:=by omega
  subst hke
  rw [hI]
  conv=>whnf
  repeat' (first|refine zz ?_|refine zd ?_ ?_<;>intro h<;>try omega|refine zy ?_|fail)<;>conv=>whnf
  all_goals first
   |omega
   |exact b9 rfl
theorem b4Z {n:Int} {l:List (Int × Rat)} (hr:f8 (-1) n l=true) {i:Nat} {t:Int × Rat} (ht:l[i]? =some t):∀k,i<k->k<=l.length->I9 l k t.1.toNat=t.2:=by
 intro k hi hk
 induction k with
 |zero=>omega
 |succ k ih=>
  obtain ⟨u,hu⟩:∃u,l[k]? =some u:=⟨_,lg0 (by omega)⟩
  rw [G9 hu]
  simp only
  by_cases h:i=k
  ·subst h
   rw [ht] at hu;injection hu with hu;subst hu
   rw [if_pos rfl]
  ·have:=a32 hr i k t u (by omega) ht hu
   have:=C2 hr t (lg2 ht)
   rw [if_neg (by omega)]
   exact ih (by omega) (by omega)
theorem aU5 {n:Int} {l:List (Int × Rat)} (hr:f8 (-1) n l=true) {i:Nat} {t:Int × Rat} (ht:l[i]? =some t):v7 l t.1.toNat=t.2:=
 b4Z hr ht _ (lg1 ht).1 (Nat.le_refl _)
theorem aJ9 (l:List (Int × Rat)) (v:Nat) {n:Int} (hr:f8 (-1) n l=true) (hl:l.length<=1000000) (hv:v<=1000000):a9 Tryz.prog 170 [n9 l,a7 .i64 v] [] (frS (fz (v7 l v))) []:=by
 have m1:(l.map i9).length=l.length:=by simp
 have i0:=a2b 0 (by decide) (by decide)
 (refine ac Tryz.func170 ?_;(conv=>whnf);repeat ((first|refine b0x ?_|refine zy ?_);conv=>whnf))
 repeat' (first|refine zz ?_|refine zd ?_ ?_<;>intro h<;>try omega|refine zy ?_|fail)<;>conv=>whnf
 refine d6 c8 (fun k=>([n9 l,a7 .i64 v,J,J,S.c (C.ptr 0 0 0),a7 .i64 k,J,J,J,J,J,J,J,J,J,J,J,J,J,J,J,J,J,J,J],[frB M5])) l.length (fun k=>∀i t,i<k->l[i]? =some t->t.1.toNat≠v) [some 0] (fun i t h=>by omega)
  ⟨rfl,rfl,⟨⟨rfl,rfl,rfl,.inr ⟨⟨rfl,rfl,rfl,rfl,trivial⟩,trivial⟩⟩,trivial⟩,⟨rfl,rfl,⟨rfl,rfl,rfl⟩,rfl,trivial⟩⟩ ?_
 intro k hk hI
 by_cases hlt:k<l.length
 ·obtain ⟨t,ht⟩:∃t,l[k]? =some t:=⟨_,lg0 hlt⟩
  have hm:=C2 hr t (lg2 ht)
  by_cases he:t.1=v
  ·have e:v7 l v=t.2:=by rw [← aU5 hr ht,he];rfl
   rw [e]
   conv=>whnf
   repeat' (first|refine zz ?_|refine b8 ht ?_|refine zd ?_ ?_<;>intro h<;>try omega|refine zy ?_|fail)<;>conv=>whnf
   all_goals first
    |omega
    |exact aC6 rfl
  ·conv=>whnf
   repeat' (first|refine zz ?_|refine b8 ht ?_|refine zd ?_ ?_<;>intro h<;>try omega|refine zy ?_|fail)<;>conv=>whnf
   all_goals first
    |omega
    |exact ⟨hlt,fun i u hi hu=>by
      by_cases h:i=k
      ·subst h;rw [ht] at hu;injection hu with hu;subst hu;omega
      ·exact hI i u (by omega) hu,[some 0],rfl,rfl,⟨⟨rfl,rfl,rfl,.inl ⟨rfl,K9 _⟩⟩,trivial⟩,⟨rfl,rfl,⟨rfl,rfl,rfl⟩,rfl,trivial⟩⟩
 ·have hke:k=l.length:=by omega
  subst hke
  have e:v7 l v=((0:Int):Rat):=a2g _ hI
  rw [e]
  conv=>whnf
  repeat' (first|refine zz ?_|refine qp i0 ?_|refine zd ?_ ?_<;>intro h<;>try omega|refine zy ?_|fail)<;>conv=>whnf
  all_goals first
   |omega
   |exact aC6 rfl
theorem b3J (a b c:Rat) (ha:rl a<=60000) (hb:rl b<=50000) (hc:rl c<=200):a9 Tryz.prog 239 [frS (fz a),frS (fz b),frS (fz c)] [] (frS (fz (a+b*c))) []:=by
 have l:=a2Y b c
 have mu:=b6H b c (by omega) (by omega)
 have ad:=aG9 a (b*c) (by omega) (by omega)
 (refine ac Tryz.func239 ?_;(conv=>whnf);repeat ((first|refine b0x ?_|refine zy ?_);conv=>whnf))
 repeat' (first|refine zz ?_|refine qp mu ?_|refine qp ad ?_|refine qp 5 ?_|refine bl0 [5] ?_|refine zd ?_ ?_<;>intro h<;>try omega|refine zy ?_|fail)<;>conv=>whnf
 all_goals first
  |exact aC6 rfl
def R0 (s:f7) (y:Nat->Rat) (k:Nat):List (Int × Rat):=((List.range k).filter fun v=>decide (O0 s y v≠0)).map fun v:Nat=>((v:Int),O0 s y v)
theorem ak9 (s:f7) (y:Nat->Rat) (k:Nat):R0 s y (k+1)=if O0 s y k=0 then R0 s y k else R0 s y k++[((k:Int),O0 s y k)]:=by
 unfold R0
 rw [List.range_succ,List.filter_append,List.map_append]
 by_cases h:O0 s y k=0
 ·rw [if_pos h];simp [h]
 ·rw [if_neg h];simp [h]
theorem ay2 (s:f7) (y:Nat->Rat) (k:Nat):(R0 s y k).length<=k:=by
 unfold R0
 rw [List.length_map]
 exact Nat.le_trans (List.length_filter_le _ _) (by simp)
def a4Z (s:f7) (y:Nat->Rat) (l k:Nat):Rat:=f9 (fun i=>y i*v7 (w6 s i).terms l) k
def a4T (s:f7) (y:Nat->Rat) (k:Nat):Rat:=f9 (fun i=>y i*(w6 s i).value) k
structure b20 (s:f7) (Y:List Rat):Prop where
 y:∀v ∈ Y,rl v<=40000
 n:∀l k,rl (a4Z s (yN Y) l k)<=50000
 v:∀k,rl (a4T s (yN Y) k)<=50000
 l:Y.length=s.rows.length
 m:s.rows.length<=1000000
theorem aX1 {l:List (Int × Rat)} (h:∀t ∈ l,rl t.2<=200) (v:Nat):rl (v7 l v)<=200:=by
 have key:∀k,rl (I9 l k v)<=200:=by
  intro k
  induction k with
  |zero=>have:=rl0;show rl 0<=_;omega
  |succ k ih=>
   cases hk:l[k]? with
   |none=>rw [I9,hk];exact ih
   |some t=>
    rw [G9 hk]
    simp only
    split
    ·exact h t (lg2 hk)
    ·exact ih
 exact key _
set_option maxHeartbeats 4000000 in
theorem b8m (s:f7) (hb:aD8 s) (hr:i8 s=true) (Y:List Rat) (hq:b20 s Y):
 a9 Tryz.prog 168 [a2i s,j8 (Y.map fz)] [] (.tup [n9 (R0 s (yN Y) s.n.toNat),frS (fz (a2j s (yN Y)))]) []:=by
 have m1:(s.rows.map w5).length=s.rows.length:=by simp
 have m2:((Y.map fz).map j5).length=Y.length:=by simp
 have l1:=hb.n0
 have hn:=hq.l
 have lr:=ap7 s hb
 rw [hr] at lr
 have hnn:0<=s.n∧s.n<=1500:=by
  unfold i8 at hr
  simp only [Bool.and_eq_true,decide_eq_true_eq] at hr
  exact ⟨hr.1.1.1,hr.1.1.2⟩
 have fr:=aX4 Y s.rows.length (by omega) (fun v hv=>by have:=hq.y v hv;omega)
 have fr2:a9 Tryz.prog 238 [j8 (Y.map fz),a7 .i64 ((s.rows.map w5).length:Nat)] [] (f5 true) []:=by rw [m1];rw [decide_eq_true hn] at fr;exact fr
 have i0:=a2b 0 (by decide) (by decide)
 (refine ac Tryz.func168 ?_;(conv=>whnf);repeat ((first|refine b0x ?_|refine zy ?_);conv=>whnf))
 repeat' (first|refine zz ?_|refine qp lr ?_|refine qp fr2 ?_|refine qp i0 ?_|refine a3n.own ?_|refine zd ?_ ?_<;>intro h<;>try omega|refine zy ?_|fail)<;>conv=>whnf
 all_goals try omega
 all_goals try (exfalso;simp_all;done)
 refine d6 c8 (fun v=>([J,j8 (Y.map fz),S.c (C.t (T.ptr [ti s.n,M3 s.rows])),J,J,S.c (C.ptr 0 0 0),S.c (C.own 1 0 (R0 s (yN Y) v).length true),a7 .i64 v,J,J,J,J,J,J,J,J,J,J,J,J,J,J,J,J,J,J,J,J,J,J,J,J,J,J,J,J,J,J,J,J,J,J,J,J,J,J,J,J,J,J,J,J,J,J,J,J,J,J,J,J,J,J,J,J,J,J,J,J,J,J,J,J,J,J,J,J,J,J,J,J,J,J],[frB M5,O8 (R0 s (yN Y) v)])) s.n.toNat (fun _=>True) [some 0,some 1] trivial
  ⟨rfl,rfl,⟨⟨rfl,rfl,rfl,.inr ⟨⟨rfl,rfl,rfl,rfl,trivial⟩,trivial⟩⟩,a8 (rows:=[]) rfl rfl rfl rfl rfl,trivial⟩,⟨rfl,rfl,⟨rfl,rfl,rfl⟩,⟨rfl,rfl,rfl,fun h=>h⟩,rfl,trivial⟩⟩ ?_
 intro v hv _
 have lv:=ay2 s (yN Y) v
 by_cases hlt:v<s.n.toNat
 ·conv=>whnf
  repeat' (first|refine zz ?_|refine qp i0 ?_|refine zd ?_ ?_<;>intro h<;>try omega|refine zy ?_|fail)<;>conv=>whnf
  all_goals try omega
  refine d6 c8 (fun k=>([J,j8 (Y.map fz),S.c (C.t (T.ptr [ti s.n,M3 s.rows])),J,J,S.c (C.ptr 0 0 0),S.c (C.own 1 0 (R0 s (yN Y) v).length true),a7 .i64 v,S.c (C.ptr 2 0 0),a7 .i64 k,J,J,J,J,J,J,J,J,J,J,J,J,J,J,J,J,J,J,J,J,J,J,J,J,J,J,J,J,J,J,J,J,J,J,J,J,J,J,J,J,J,J,J,J,J,J,J,J,J,J,J,J,J,J,J,J,J,J,J,J,J,J,J,J,J,J,J,J,J,J,J,J],[frB M5,O8 (R0 s (yN Y) v),frB (fz (a4Z s (yN Y) v k))])) Y.length (fun _=>True) [some 0,some 1,some 2] trivial
   ⟨rfl,rfl,⟨⟨rfl,rfl,rfl,.inr ⟨⟨rfl,rfl,rfl,rfl,trivial⟩,trivial⟩⟩,a8 (rows:=(R0 s (yN Y) v).map i9) rfl rfl rfl rfl rfl,⟨rfl,rfl,rfl,.inl ⟨rfl,K9 _⟩⟩,trivial⟩,⟨rfl,rfl,⟨rfl,rfl,rfl⟩,⟨rfl,rfl,rfl,fun h=>h⟩,rfl,⟨rfl,rfl,rfl⟩,rfl,trivial⟩⟩ ?_
  intro k hk _
  by_cases hkl:k<Y.length
  ·obtain ⟨x,hx⟩:∃x,Y[k]? =some x:=⟨_,lg0 hkl⟩
   obtain ⟨w,hw⟩:∃w,s.rows[k]? =some w:=⟨_,lg0 (by omega)⟩
   obtain ⟨b1,b2,b3⟩:=hb.t w (lg2 hw)
   have hrt:=(W4 hr hw).1
   have bx:=hq.y x (lg2 hx)
   have co:=aJ9 w.terms v hrt (by omega) (by omega)
   have bc:=aX1 b2 v
   have bm:=hq.n v k
   have pl:=b3J (a4Z s (yN Y) v k) x (v7 w.terms v) (by omega) (by omega) bc
   have e:a4Z s (yN Y) v k+x*v7 w.terms v=a4Z s (yN Y) v (k+1):=by
    show _=a4Z s (yN Y) v k+yN Y k*v7 (w6 s k).terms v
    rw [L3 hw,aM7 hx]
   rw [e] at pl
   conv=>whnf
   repeat' (first|refine zz ?_|refine qp co ?_|refine qp pl ?_|refine b8 (a17 Y hx) ?_|refine b8 hw ?_|refine zd ?_ ?_<;>intro h<;>try omega|refine zy ?_|fail)<;>conv=>whnf
   all_goals first
    |omega
    |exact ⟨hkl,trivial,[some 0,some 1,some 2],rfl,rfl,⟨⟨rfl,rfl,rfl,.inr ⟨⟨rfl,rfl,rfl,rfl,trivial⟩,trivial⟩⟩,a8 (rows:=(R0 s (yN Y) v).map i9) rfl rfl rfl rfl rfl,⟨rfl,rfl,rfl,.inl ⟨rfl,K9 _⟩⟩,trivial⟩,⟨rfl,rfl,⟨rfl,rfl,rfl⟩,⟨rfl,rfl,rfl,fun h=>h⟩,rfl,⟨rfl,rfl,rfl⟩,rfl,trivial⟩⟩
  ·have hke:k=s.rows.length:=by omega
   subst hke
   have e:a4Z s (yN Y) v s.rows.length=O0 s (yN Y) v:=rfl
   rw [e]
   have bm:=hq.n v s.rows.length
   rw [e] at bm
   have sg:=a0S (O0 s (yN Y) v) (by omega)
   have sz:=a1X (x:=O0 s (yN Y) v)
   have lA:(R0 s (yN Y) v).length<=(O8 (R0 s (yN Y) v)).rows.length:=by show _<=(toC _).length;simp [toC]
   by_cases hz:O0 s (yN Y) v=0
   ·have hs:=sz.2 hz
    have e2:R0 s (yN Y) (v+1)=R0 s (yN Y) v:=by rw [ak9,if_pos hz]
    rw [e2]
    conv=>whnf
    repeat' (first|refine zz ?_|refine qp sg ?_|refine zd ?_ ?_<;>intro h<;>try omega|refine zy ?_|fail)<;>conv=>whnf
    all_goals first
     |omega
     |exact ⟨hlt,trivial,[some 0,some 1],rfl,rfl,⟨⟨rfl,rfl,rfl,.inr ⟨⟨rfl,rfl,rfl,rfl,trivial⟩,trivial⟩⟩,a8 (rows:=(R0 s (yN Y) v).map i9) rfl rfl rfl rfl rfl,trivial⟩,⟨rfl,rfl,⟨rfl,rfl,rfl⟩,⟨rfl,rfl,rfl,fun h=>h⟩,rfl,trivial⟩⟩
   ·have hs:sgR (O0 s (yN Y) v)≠0:=fun h=>hz (sz.1 h)
    have e2:R0 s (yN Y) (v+1)=R0 s (yN Y) v++[((v:Int),O0 s (yN Y) v)]:=by rw [ak9,if_neg hz]
    rw [e2]
    conv=>whnf
    repeat' (first|refine zz ?_|refine qp sg ?_|refine qp toC ?_|refine o7 lA (by simp [toC];omega) ?_|refine zd ?_ ?_<;>intro h<;>try omega|refine zy ?_|fail)<;>conv=>whnf
    all_goals first
     |omega
     |(refine ⟨hlt,trivial,[some 0,some 3],rfl,rfl,⟨⟨rfl,rfl,rfl,.inr ⟨⟨rfl,rfl,rfl,rfl,trivial⟩,trivial⟩⟩,a8 (rows:=(R0 s (yN Y) v++[((v:Int),O0 s (yN Y) v)]).map i9) rfl rfl rfl ?_ ?_,trivial⟩,⟨rfl,rfl,⟨rfl,rfl,rfl⟩,⟨rfl,rfl,?_,fun h=>h⟩,rfl,trivial⟩⟩
       ·exact y5 (f:=i9) (x:=((v:Int),O0 s (yN Y) v)) rfl
       ·rfl
       ·simp [toC])
 ·have hke:v=s.n.toNat:=by omega
  subst hke
  conv=>whnf
  repeat' (first|refine zz ?_|refine qp i0 ?_|refine zd ?_ ?_<;>intro h<;>try omega|refine zy ?_|fail)<;>conv=>whnf
  all_goals try omega
  refine d6 c8 (fun k=>([J,j8 (Y.map fz),S.c (C.t (T.ptr [ti s.n,M3 s.rows])),J,J,S.c (C.ptr 0 0 0),S.c (C.own 1 0 (R0 s (yN Y) s.n.toNat).length true),J,J,J,S.c (C.ptr 2 0 0),a7 .i64 k,J,J,J,J,J,J,J,J,J,J,J,J,J,J,J,J,J,J,J,J,J,J,J,J,J,J,J,J,J,J,J,J,J,J,J,J,J,J,J,J,J,J,J,J,J,J,J,J,J,J,J,J,J,J,J,J,J,J,J,J,J,J,J,J,J,J,J,J,J,J],[frB M5,O8 (R0 s (yN Y) s.n.toNat),frB (fz (a4T s (yN Y) k))])) Y.length (fun _=>True) [some 0,some 1,some 2] trivial
   ⟨rfl,rfl,⟨⟨rfl,rfl,rfl,.inr ⟨⟨rfl,rfl,rfl,rfl,trivial⟩,trivial⟩⟩,a8 (rows:=(R0 s (yN Y) s.n.toNat).map i9) rfl rfl rfl rfl rfl,⟨rfl,rfl,rfl,.inl ⟨rfl,K9 _⟩⟩,trivial⟩,⟨rfl,rfl,⟨rfl,rfl,rfl⟩,⟨rfl,rfl,rfl,fun h=>h⟩,⟨rfl,rfl,rfl⟩,rfl,trivial⟩⟩ ?_
  intro k hk _
  by_cases hkl:k<Y.length
  ·obtain ⟨x,hx⟩:∃x,Y[k]? =some x:=⟨_,lg0 hkl⟩
   obtain ⟨w,hw⟩:∃w,s.rows[k]? =some w:=⟨_,lg0 (by omega)⟩
   obtain ⟨b1,b2,b3⟩:=hb.t w (lg2 hw)
   have bx:=hq.y x (lg2 hx)
   have bm:=hq.v k
   have pl:=b3J (a4T s (yN Y) k) x w.value (by omega) (by omega) b3
   have e:a4T s (yN Y) k+x*w.value=a4T s (yN Y) (k+1):=by
    show _=a4T s (yN Y) k+yN Y k*(w6 s k).value
    rw [L3 hw,aM7 hx]
   rw [e] at pl
   conv=>whnf
   repeat' (first|refine zz ?_|refine qp pl ?_|refine b8 (a17 Y hx) ?_|refine b8 hw ?_|refine zd ?_ ?_<;>intro h<;>try omega|refine zy ?_|fail)<;>conv=>whnf
   all_goals first
    |omega
    |exact ⟨hkl,trivial,[some 0,some 1,some 2],rfl,rfl,⟨⟨rfl,rfl,rfl,.inr ⟨⟨rfl,rfl,rfl,rfl,trivial⟩,trivial⟩⟩,a8 (rows:=(R0 s (yN Y) s.n.toNat).map i9) rfl rfl rfl rfl rfl,⟨rfl,rfl,rfl,.inl ⟨rfl,K9 _⟩⟩,trivial⟩,⟨rfl,rfl,⟨rfl,rfl,rfl⟩,⟨rfl,rfl,rfl,fun h=>h⟩,⟨rfl,rfl,rfl⟩,rfl,trivial⟩⟩
  ·have hke:k=s.rows.length:=by omega
   subst hke
   have e:a4T s (yN Y) s.rows.length=a2j s (yN Y):=rfl
   rw [e]
   conv=>whnf
   repeat' (first|refine zz ?_|refine zd ?_ ?_<;>intro h<;>try omega|refine zy ?_|fail)<;>conv=>whnf
   all_goals first
    |omega
    |exact k5 ⟨(show VC _ (fun id=>E1 [] id=true) (C.own 1 0 _ true) _ from t5 (k:=O8 (R0 s (yN Y) s.n.toNat)) rfl rfl (fun h=>h) rfl rfl (by simp)),⟨rfl,rfl,rfl,rfl,trivial⟩,trivial⟩
theorem al9 {n:Int}:∀{l:List (Int × Rat)} {last:Int},l.Pairwise (fun a b=>a.1<b.1)->(∀ t ∈ l,last<t.1∧t.1<n∧t.2≠0)->f8 last n l=true
 |[],_,_,_=>rfl
 |a::r,last,h1,h2=>by
  unfold f8
  simp only [Bool.and_eq_true,decide_eq_true_eq]
  obtain ⟨p1,p2⟩:=List.pairwise_cons.1 h1
  have:=h2 a (List.mem_cons_self ..)
  exact ⟨⟨⟨this.1,this.2.1⟩,this.2.2⟩,al9 p2 fun t ht=>⟨p1 t ht,(h2 t (List.mem_cons_of_mem _ ht)).2⟩⟩
theorem a8Y {s:f7} {y:Nat->Rat} {k:Nat} {t:Int × Rat}:t ∈ R0 s y k↔∃v:Nat,v<k∧O0 s y v≠0∧t=((v:Int),O0 s y v):=by
 unfold R0
 rw [List.mem_map]
 constructor
 ·rintro ⟨v,hv,rfl⟩
  rw [List.mem_filter,List.mem_range] at hv
  exact ⟨v,hv.1,by simpa using hv.2,rfl⟩
 ·rintro ⟨v,h1,h2,rfl⟩
  exact ⟨v,by rw [List.mem_filter,List.mem_range];exact ⟨h1,by simpa using h2⟩,rfl⟩
theorem a8O (s:f7) (y:Nat->Rat) (k:Nat):f8 (-1) (k:Int) (R0 s y k)=true:=by
 refine al9 ?_ fun t ht=>?_
 ·unfold R0
  rw [List.pairwise_map]
  exact ((List.pairwise_lt_range (n:=k)).filter _).imp fun {a b} h=>by show (a:Int)<b;omega
 ·obtain ⟨v,h1,h2,rfl⟩:=a8Y.1 ht
  exact ⟨by simp only;omega,by simp only;omega,h2⟩
theorem b45 {s:f7} {y:Nat->Rat} {k v:Nat} (hv:v<k):v7 (R0 s y k) v=O0 s y v:=by
 by_cases h:O0 s y v=0
 ·rw [h]
  refine a2g _ fun i t _ ht=>?_
  obtain ⟨u,h1,h2,rfl⟩:=a8Y.1 (lg2 ht)
  intro e
  have e:u=v:=by simpa using e
  exact h2 (e ▸ h)
 ·obtain ⟨i,hi,he⟩:=List.getElem_of_mem (a8Y.2 ⟨v,hv,h,rfl⟩)
  have:=aU5 (a8O s y k) (i:=i) (t:=((v:Int),O0 s y v)) (by rw [lg0 hi,he])
  simpa using this
def a33 (s:f7) (g:List (Int × Rat)) (Y:List Rat):Bool:=a3e s Y && f8 (-1) s.n g && (List.range s.n.toNat).all fun v=>decide (O0 s (yN Y) v<=v7 g v)
def ad9 (s:f7) (g:List (Int × Rat)) (Y:List Rat):S:=if a33 s g Y=true then .tup [frS (fz (a2j s (yN Y))),f5 true] else .tup [frS M5,f5 false]
set_option maxHeartbeats 2000000 in
theorem b4C (s:f7) (hb:aD8 s) (hr:i8 s=true) (g:List (Int × Rat)) (hg:g.length<=1000000) (hgb:∀t ∈ g,rl t.2<=200) (Y:List Rat) (hy:∀v ∈ Y,rl v<=40000) (hyl:Y.length<=1000000) (hq:Y.length=s.rows.length->b20 s Y):
 a9 Tryz.prog 95 [a2i s,n9 g,j8 (Y.map fz)] [] (ad9 s g Y) []:=by
 have hnn:0<=s.n∧s.n<=1500:=by
  unfold i8 at hr
  simp only [Bool.and_eq_true,decide_eq_true_eq] at hr
  exact ⟨hr.1.1.1,hr.1.1.2⟩
 have sn:=b3e s hb hr Y hyl (fun v hv=>by have:=hy v hv;omega)
 have rt:=a2v g s.n hg hgb
 rw [decide_eq_true hnn.1,Bool.true_and] at rt
 cases hs:a3e s Y with
 |false=>
  have e:ad9 s g Y=.tup [frS M5,f5 false]:=by unfold ad9 a33;rw [hs];rfl
  rw [e]
  rw [hs] at sn
  (refine ac Tryz.func95 ?_;(conv=>whnf);repeat ((first|refine b0x ?_|refine zy ?_);conv=>whnf))
  repeat' (first|refine zz ?_|refine qp sn ?_|refine qp rt ?_|refine zd ?_ ?_<;>intro h<;>try omega|refine zy ?_|fail)<;>conv=>whnf
  all_goals first
   |(exfalso;simp_all;done)
   |exact k5 ⟨⟨rfl,rfl,rfl,rfl,trivial⟩,rfl,trivial⟩
 |true=>
 rw [hs] at sn
 cases ht:f8 (-1) s.n g with
 |false=>
  have e:ad9 s g Y=.tup [frS M5,f5 false]:=by unfold ad9 a33;rw [hs,ht];rfl
  rw [e]
  rw [ht] at rt
  (refine ac Tryz.func95 ?_;(conv=>whnf);repeat ((first|refine b0x ?_|refine zy ?_);conv=>whnf))
  repeat' (first|refine zz ?_|refine qp sn ?_|refine qp rt ?_|refine zd ?_ ?_<;>intro h<;>try omega|refine zy ?_|fail)<;>conv=>whnf
  all_goals first
   |(exfalso;simp_all;done)
   |exact k5 ⟨⟨rfl,rfl,rfl,rfl,trivial⟩,rfl,trivial⟩
 |true=>
 rw [ht] at rt
 have hl:Y.length=s.rows.length:=by
  unfold a3e at hs
  simp only [Bool.and_eq_true,decide_eq_true_eq] at hs
  exact hs.1
 have hq:=hq hl
 have eb:a33 s g Y=(List.range s.n.toNat).all fun v=>decide (O0 s (yN Y) v<=v7 g v):=by unfold a33;rw [hs,ht];simp
 have mx:=b8m s hb hr Y hq
 have ml:=ay2 s (yN Y) s.n.toNat
 have mr:=a8O s (yN Y) s.n.toNat
 (refine ac Tryz.func95 ?_;(conv=>whnf);repeat ((first|refine b0x ?_|refine zy ?_);conv=>whnf))
 repeat' (first|refine zz ?_|refine qp sn ?_|refine qp rt ?_|refine qp mx ?_|refine qp 5 ?_|refine bl0 [5] ?_|refine zd ?_ ?_<;>intro h<;>try omega|refine zy ?_|fail)<;>conv=>whnf
 all_goals try (exfalso;simp_all;done)
 refine d6 c8 (fun v=>([J,n9 g,J,S.c (C.t (T.ptr [ti s.n,M3 s.rows])),J,J,S.c (C.ptr 0 0 0),J,n9 (R0 s (yN Y) s.n.toNat),S.c (C.ptr 1 0 0),a7 .i64 v,J,J,J,J,J,J,J,J,J,J,J,J,J,J,J,J,J,J,J,J,J,J,J,J,J,J,J,J,J,J,J,J,J,J],[frB M5,frB (fz (a2j s (yN Y)))])) s.n.toNat (fun k=>(List.range k).all (fun v=>decide (O0 s (yN Y) v<=v7 g v))=true) [some 0,some 1] rfl
  ⟨rfl,rfl,⟨⟨rfl,rfl,rfl,.inr ⟨⟨rfl,rfl,rfl,rfl,trivial⟩,trivial⟩⟩,⟨rfl,rfl,rfl,.inl ⟨rfl,K9 _⟩⟩,trivial⟩,⟨rfl,rfl,⟨rfl,rfl,rfl⟩,rfl,⟨rfl,rfl,rfl⟩,rfl,trivial⟩⟩ ?_
 intro v hv hI
 by_cases hlt:v<s.n.toNat
 ·have c1:=aJ9 (R0 s (yN Y) s.n.toNat) v mr (by omega) (by omega)
  rw [b45 hlt] at c1
  have c2:=aJ9 g v ht hg (by omega)
  have b1:=hq.n v s.rows.length
  have b2:=aX1 hgb v
  have b1:rl (O0 s (yN Y) v)<=50000:=b1
  have cm:=ah4 (O0 s (yN Y) v) (v7 g v) (by omega) (by omega)
  have k2:=a6a (x:=O0 s (yN Y) v) (y:=v7 g v)
  generalize Z0 (O0 s (yN Y) v) (v7 g v)=U at cm k2
  by_cases hok:U > 0
  ·have hF:decide (O0 s (yN Y) v<=v7 g v)=false:=decide_eq_false (Rat.not_le.2 (k2.1 hok))
   have e:ad9 s g Y=.tup [frS M5,f5 false]:=by
    unfold ad9
    rw [eb,a6c (n:=s.n.toNat) hlt hF];rfl
   rw [e]
   clear k2
   conv=>whnf
   repeat' (first|refine zz ?_|refine qp c1 ?_|refine qp c2 ?_|refine qp cm ?_|refine zd ?_ ?_<;>intro h<;>try omega|refine zy ?_|fail)<;>conv=>whnf
   all_goals first
    |omega
    |exact k5 ⟨⟨rfl,rfl,rfl,rfl,trivial⟩,rfl,trivial⟩
  ·have hT:decide (O0 s (yN Y) v<=v7 g v)=true:=decide_eq_true (Rat.not_lt.1 (fun h=>hok (k2.2 h)))
   clear k2
   conv=>whnf
   repeat' (first|refine zz ?_|refine qp c1 ?_|refine qp c2 ?_|refine qp cm ?_|refine zd ?_ ?_<;>intro h<;>try omega|refine zy ?_|fail)<;>conv=>whnf
   all_goals first
    |omega
    |exact ⟨hlt,by rw [a3W,hI,hT];rfl,[some 0,some 1],rfl,rfl,⟨⟨rfl,rfl,rfl,.inr ⟨⟨rfl,rfl,rfl,rfl,trivial⟩,trivial⟩⟩,⟨rfl,rfl,rfl,.inl ⟨rfl,K9 _⟩⟩,trivial⟩,⟨rfl,rfl,⟨rfl,rfl,rfl⟩,rfl,⟨rfl,rfl,rfl⟩,rfl,trivial⟩⟩
 ·have hke:v=s.n.toNat:=by omega
  subst hke
  have e:ad9 s g Y=.tup [frS (fz (a2j s (yN Y))),f5 true]:=by
   unfold ad9
   rw [eb,hI];rfl
  rw [e]
  conv=>whnf
  repeat' (first|refine zz ?_|refine zd ?_ ?_<;>intro h<;>try omega|refine zy ?_|fail)<;>conv=>whnf
  all_goals first
   |omega
   |exact k5 ⟨⟨rfl,rfl,rfl,rfl,trivial⟩,rfl,trivial⟩
theorem ai6 {t:Int × Rat} {r:List (Int × Rat)} (h:∀u ∈ r,u.1.toNat≠t.1.toNat) (v:Nat):∀k,k<=r.length->I9 (t::r) (k+1) v=if v=t.1.toNat then t.2 else I9 r k v
 |0,_=>by
  rw [G9 (l:=t::r) (k:=0) (t:=t) rfl]
  simp only
  by_cases h1:v=t.1.toNat
  ·rw [if_pos h1,if_pos h1]
  ·rw [if_neg h1,if_neg h1]
   rfl
 |k+1,hk=>by
  have hx:r[k]? =some r[k]:=lg0 (by omega)
  have hne:=h _ (lg2 hx)
  rw [G9 (l:=t::r) (k:=k+1) (t:=r[k]) (by simp),G9 hx]
  have ih:=ai6 h v k (by omega)
  simp only
  rw [ih]
  by_cases h1:v=t.1.toNat
  ·rw [if_pos h1,if_pos h1,if_neg (by omega)]
  ·rw [if_neg h1,if_neg h1]
theorem P7 {last n:Int} {t:Int × Rat} {r:List (Int × Rat)} (h0:-1<=last) (h:f8 last n (t::r)=true) (v:Nat):v7 (t::r) v=if v=t.1.toNat then t.2 else v7 r v:=by
 refine ai6 (fun u hu=>?_) v r.length (Nat.le_refl _)
 obtain ⟨j,hj,he⟩:=List.getElem_of_mem hu
 have h1:=a32 h 0 (j+1) t u (by omega) rfl (by simp [he,hj])
 have h2:=C2 h t (List.mem_cons_self ..)
 omega
theorem Z3 {last n:Int} {t:Int × Rat} {r:List (Int × Rat)} (h:f8 last n (t::r)=true):f8 t.1 n r=true:=by
 unfold f8 at h
 simp only [Bool.and_eq_true] at h
 exact h.2
theorem aF9 {last last' n:Int} (hl:last'<=last) {l:List (Int × Rat)} (h:f8 last n l=true):f8 last' n l=true:=by
 cases l with
 |nil=>rfl
 |cons t r=>
  unfold f8 at h ⊢
  simp only [Bool.and_eq_true,decide_eq_true_eq] at h ⊢
  exact ⟨⟨⟨by omega,h.1.1.2⟩,h.1.2⟩,h.2⟩
theorem a9Y {last n:Int} {l:List (Int × Rat)} (h0:-1<=last) (h:f8 last n l=true) {v:Nat} (hv:(v:Int)<=last):v7 l v=0:=by
 refine a2g _ fun i t hi ht e=>?_
 have:=C2 h t (lg2 ht)
 omega
theorem aE2 (u:Int × Rat) (q:List (Int × Rat)):T.sl 5 (Z2 SK.any none none) (List.drop (Int.toNat 1) (List.take (((((u::q).map i9).length:Nat):Int)).toNat ((u::q).map i9)))=.sl 5 .any (q.map i9):=by
 rw [lg4 (by omega)];rfl
theorem b2b (x:Rat):sgR x<0↔x<((0:Int):Rat):=by unfold sgR;split<;>(try split)<;>simp_all
theorem b2Z {x y:Rat} {ρ:List (Option Nat)} {H:Hp} (h:x=y):a3E ρ H (frS (fz x)) (frS (fz y)):=by subst h;exact ⟨rfl,rfl,rfl,rfl,trivial⟩
theorem a88 (n lo hi:Int):a9 Tryz.prog 273 [a7 .i64 n,a7 .i64 lo,a7 .i64 hi] [] (f5 (btw n lo hi)) []:=by
 (refine ac Tryz.func273 ?_;(conv=>whnf);repeat (refine zy ?_;conv=>whnf))
 repeat' (first|refine zz ?_|refine zd ?_ ?_<;>intro h<;>try omega|refine zy ?_|fail)<;>conv=>whnf
 all_goals (refine b9 ?_;simp only [btw];simp;omega)
theorem aC2 (c:G5):a9 Tryz.prog 297 [aH2 c] [] (f5 (J7 c)) []:=by
 have w1:=a88 c.scale 0 29
 have w2:=a88 c.grams 0 1099511627776
 have w3:=a88 c.permille 0 1000
 have w4:=a88 c.drift 0 10000000
 rw [aj0] at w1
 unfold J7
 cases h1:idx c.scale 30<;>cases h2:btw c.grams 0 1099511627776<;>cases h3:btw c.permille 0 1000<;>cases h4:btw c.drift 0 10000000<;>rw [h1] at w1<;>rw [h2] at w2<;>rw [h3] at w3<;>rw [h4] at w4<;>
 ·(refine ac Tryz.func297 ?_;(conv=>whnf);repeat (refine zy ?_;conv=>whnf))
  repeat' (first|refine zz ?_|refine qp w1 ?_|refine qp w2 ?_|refine qp w3 ?_|refine qp w4 ?_|refine zd ?_ ?_<;>intro h<;>try omega|refine zy ?_|fail)<;>conv=>whnf
  all_goals (refine b9 ?_;simp;try omega)
def a4b (o:Option Nat):Int:=match o with
 |none=>-1
 |some b=>b
set_option maxHeartbeats 2000000 in
theorem b65 (cs:List G5) (scale day:Int) (hl:cs.length<=1000000):
 a9 Tryz.prog 271 [.c (.t (W5 cs)),a7 .i64 scale,a7 .i64 day] [] (.tup [a7 .i64 (a7w (x5 cs scale day cs.length)),f5 (x5 cs scale day cs.length).isSome]) []:=by
 have l1:(cs.map G5.row).length=cs.length:=by simp
 (refine ac Tryz.func271 ?_;(conv=>whnf);repeat ((first|refine b0x ?_|refine zy ?_);conv=>whnf))
 repeat' (first|refine zz ?_|refine zd ?_ ?_<;>intro h<;>try omega|refine zy ?_|fail)<;>conv=>whnf
 refine d6 c8 (fun k=>([S.c (C.t (W5 cs)),a7 .i64 scale,a7 .i64 day,J,J,J,J,J,a7 .i64 (a4b (x5 cs scale day k)),a7 .i64 k,J,J,J,J,J,J,J,J,J,J,J,J,J,J,J,J,J,J,J,J,J,J,J,J,J,J,J,J,J,J,J,J,J,J,J,J,J,J,J,J,J,J,J,J,J,J,J],[])) cs.length (fun _=>True) [] trivial
  ⟨rfl,rfl,trivial,⟨rfl,rfl,rfl,rfl,rfl,trivial⟩⟩ ?_
 intro k hk _
 by_cases hlt:k<cs.length
 ·obtain ⟨c,hc⟩:∃c,cs[k]? =some c:=⟨_,lg0 hlt⟩
  have cr:=aC2 c
  have ci:=a88 day c.since c.till
  have hst:x5 cs scale day (k+1)=if decide (c.scale=scale) && F9 c day && a3h cs (x5 cs scale day k) c then some k else x5 cs scale day k:=by
   conv=>lhs;unfold x5
   rw [hc]
  have nxt:∀z:Int,a4b (x5 cs scale day (k+1))=z->z=a4b (x5 cs scale day (k+1)):=fun z h=>h.symm
  cases hr:J7 c with
  |false=>
   have hcv:F9 c day=false:=by unfold F9;rw [hr];rfl
   rw [hcv] at hst
   simp only [Bool.and_false,Bool.false_and,Bool.false_eq_true,if_false] at hst
   rw [hr] at cr
   rw [← hst]
   conv=>whnf
   repeat' (first|refine zz ?_|refine qp cr ?_|refine b8 hc ?_|refine zd ?_ ?_<;>intro h<;>try omega|refine zy ?_|fail)<;>conv=>whnf
   all_goals first
    |omega
    |(exfalso;simp_all;done)
    |exact ⟨hlt,trivial,[],rfl,rfl,trivial,⟨rfl,rfl,rfl,rfl,rfl,trivial⟩⟩
  |true=>
  rw [hr] at cr
  cases hb:btw day c.since c.till with
  |false=>
   have hcv:F9 c day=false:=by unfold F9;rw [hr,hb];rfl
   rw [hcv] at hst
   simp only [Bool.and_false,Bool.false_and,Bool.false_eq_true,if_false] at hst
   rw [hb] at ci
   rw [← hst]
   conv=>whnf
   repeat' (first|refine zz ?_|refine qp cr ?_|refine qp ci ?_|refine b8 hc ?_|refine zd ?_ ?_<;>intro h<;>try omega|refine zy ?_|fail)<;>conv=>whnf
   all_goals first
    |omega
    |(exfalso;simp_all;done)
    |exact ⟨hlt,trivial,[],rfl,rfl,trivial,⟨rfl,rfl,rfl,rfl,rfl,trivial⟩⟩
  |true=>
   have hcv:F9 c day=true:=by unfold F9;rw [hr,hb];rfl
   rw [hcv] at hst
   rw [hb] at ci
   cases hf:x5 cs scale day k with
   |none=>
    rw [hf] at hst
    have e0:a4b none=-1:=rfl
    rw [e0]
    by_cases hsc:c.scale=scale
    ·have hst2:(k:Int)=a4b (x5 cs scale day (k+1)):=by rw [hst,if_pos (by simp [hsc,a3h])];rfl
     clear hst hcv hr hb nxt
     conv=>whnf
     repeat' (first|refine zz ?_|refine qp cr ?_|refine qp ci ?_|refine b8 hc ?_|refine zd ?_ ?_<;>intro h<;>try omega|refine zy ?_|fail)<;>conv=>whnf
     all_goals first
      |omega
      |exact ⟨hlt,trivial,[],rfl,rfl,trivial,⟨rfl,rfl,rfl,c6 hst2,rfl,trivial⟩⟩
    ·have hst2:(-1:Int)=a4b (x5 cs scale day (k+1)):=by rw [hst,if_neg (by simp [hsc])];rfl
     clear hst hcv hr hb nxt
     conv=>whnf
     repeat' (first|refine zz ?_|refine qp cr ?_|refine qp ci ?_|refine b8 hc ?_|refine zd ?_ ?_<;>intro h<;>try omega|refine zy ?_|fail)<;>conv=>whnf
     all_goals first
      |omega
      |exact ⟨hlt,trivial,[],rfl,rfl,trivial,⟨rfl,rfl,rfl,c6 hst2,rfl,trivial⟩⟩
   |some b=>
    rw [hf] at hst
    obtain ⟨hb',cb,hcb,_⟩:=I4 hf
    have hsb:=ay0 hcb
    have e0:a4b (some b)=(b:Int):=rfl
    have em:(if (0:Int) > (b:Int) then 0 else (b:Int))=(b:Int):=if_neg (by omega)
    rw [e0]
    by_cases hsc:c.scale=scale∧cb.since<=c.since
    ·have hst2:(k:Int)=a4b (x5 cs scale day (k+1)):=by rw [hst,if_pos (by simp [hsc.1,a3h,hsb,hsc.2])];rfl
     clear hst hcv hr hb nxt
     conv=>whnf
     repeat' (first|refine zz ?_|refine qp cr ?_|refine qp ci ?_|refine b8 hc ?_|refine E6 em hcb ?_|refine zd ?_ ?_<;>intro h<;>try omega|refine zy ?_|fail)<;>conv=>whnf
     all_goals first
      |omega
      |exact ⟨hlt,trivial,[],rfl,rfl,trivial,⟨rfl,rfl,rfl,c6 hst2,rfl,trivial⟩⟩
    ·have hst2:(b:Int)=a4b (x5 cs scale day (k+1)):=by
      rw [hst,if_neg (by simp only [Bool.and_eq_true,decide_eq_true_eq,a3h,hsb];intro h;exact hsc ⟨h.1.1,h.2⟩)];rfl
     clear hst hcv hr hb nxt
     conv=>whnf
     repeat' (first|refine zz ?_|refine qp cr ?_|refine qp ci ?_|refine b8 hc ?_|refine E6 em hcb ?_|refine zd ?_ ?_<;>intro h<;>try omega|refine zy ?_|fail)<;>conv=>whnf
     all_goals first
      |omega
      |exact ⟨hlt,trivial,[],rfl,rfl,trivial,⟨rfl,rfl,rfl,c6 hst2,rfl,trivial⟩⟩
 ·have hke:k=cs.length:=by omega
  subst hke
  cases hf:x5 cs scale day cs.length with
  |none=>
   have e0:a4b none=-1:=rfl
   rw [e0]
   conv=>whnf
   repeat' (first|refine zz ?_|refine zd ?_ ?_<;>intro h<;>try omega|refine zy ?_|fail)<;>conv=>whnf
   all_goals first
    |omega
    |exact k5 ⟨rfl,rfl,trivial⟩
  |some b=>
   have e0:a4b (some b)=(b:Int):=rfl
   have em:(if (0:Int) > (b:Int) then 0 else (b:Int))=(b:Int):=if_neg (by omega)
   rw [e0]
   conv=>whnf
   repeat' (first|refine zz ?_|refine zd ?_ ?_<;>intro h<;>try omega|refine zy ?_|fail)<;>conv=>whnf
   all_goals first
    |omega
    |exact k5 ⟨c6 em,rfl,trivial⟩
theorem aA8 (rs:List z4) (hl:rs.length<=1000000) (scale day:Int):a9 Tryz.prog 272 [.c (.t (G1 rs)),a7 .i64 scale,a7 .i64 day] [] (f5 (a1f rs scale day)) []:=by
 have l1:(rs.map z4.row).length=rs.length:=by simp
 (refine ac Tryz.func272 ?_;(conv=>whnf);repeat ((first|refine b0x ?_|refine zy ?_);conv=>whnf))
 repeat' (first|refine zz ?_|refine zd ?_ ?_<;>intro h<;>try omega|refine zy ?_|fail)<;>conv=>whnf
 refine d6 c8 (fun k=>([S.c (C.t (G1 rs)),a7 .i64 scale,a7 .i64 day,J,J,J,J,a7 .i64 k,J,J,J,J,J,J,J,J,J,J,J,J,J,J,J,J,J,J,J,J,J,J],[])) rs.length (fun k=>(rs.take k).any (fun r=>decide (r.scale=scale) && decide (r.since<=day))=false) [] rfl
  ⟨rfl,rfl,trivial,⟨rfl,rfl,rfl,rfl,trivial⟩⟩ ?_
 intro k hk hI
 by_cases hlt:k<rs.length
 ·obtain ⟨r,hr⟩:∃r,rs[k]? =some r:=⟨_,lg0 hlt⟩
  conv=>whnf
  repeat' (first|refine zz ?_|refine b8 hr ?_|refine zd ?_ ?_<;>intro h<;>try omega|refine zy ?_|fail)<;>conv=>whnf
  all_goals first
   |omega
   |(refine ⟨hlt,?_,[],rfl,rfl,trivial,⟨rfl,rfl,rfl,rfl,trivial⟩⟩;rw [a05 hr,hI];simp [*];done)
   |(refine ⟨hlt,?_,[],rfl,rfl,trivial,⟨rfl,rfl,rfl,rfl,trivial⟩⟩;rw [a05 hr,hI];simp;omega)
   |(refine b9 ?_;unfold a1f;rw [a34 hr];simp [*];done)
   |(refine b9 ?_;unfold a1f;rw [a34 hr];simp;omega)
 ·rw [lg4 (by omega)] at hI
  conv=>whnf
  repeat' (first|refine zz ?_|refine zd ?_ ?_<;>intro h<;>try omega|refine zy ?_|fail)<;>conv=>whnf
  all_goals first
   |omega
   |exact b9 hI.symm
theorem b2t (c:G5) (reading day:Int) (h:F9 c day=true) (hr:btw reading 0 1099511627776=true):a9 Tryz.prog 274 [aH2 c,a7 .i64 reading,a7 .i64 day] []
 (.tup [frS (fz (a1I c reading day)),f5 true]) []:=by
 have cr:=aC2 c
 have ci:=a88 day c.since c.till
 have wi:=a88 reading 0 1099511627776
 have hcr:J7 c=true:=by unfold F9 at h;simp only [Bool.and_eq_true] at h;exact h.1
 have hci:btw day c.since c.till=true:=by unfold F9 at h;simp only [Bool.and_eq_true] at h;exact h.2
 rw [hcr] at cr
 rw [hci] at ci
 rw [hr] at wi
 have hc:=a2W h
 obtain ⟨p0,p1,d0,d1⟩:=b1M.of h hr
 rw [S4] at hr
 have fo:=b92 (c.permille*reading) 1000 (by decide) (by omega) (by omega) (by decide)
 have fi:=a2b (c.grams+c.drift*(day - c.since)) (by omega) (by omega)
 have h2:rl (Rat.divInt (c.permille*reading) 1000)<=4:=Nat.le_trans (N0 (by decide)) (by have:=P6 (x:=c.permille*reading) (by omega) (by omega);have:=P6 (x:=1000) (by decide) (by decide);omega)
 have h3:rl ((c.grams+c.drift*(day - c.since):Int):Rat)<=4:=by rw [a1c];have:=P6 (x:=c.grams+c.drift*(day - c.since)) (by omega) (by omega);omega
 have ad:=aG9 ((c.grams+c.drift*(day - c.since):Int):Rat) (Rat.divInt (c.permille*reading) 1000) (by omega) (by omega)
 (refine ac Tryz.func274 ?_;(conv=>whnf);repeat (refine zy ?_;conv=>whnf))
 repeat' (first|refine zz ?_|refine qp cr ?_|refine qp ci ?_|refine qp wi ?_|refine qp fo ?_|refine qp fi ?_|refine qp ad ?_|refine qp 7 ?_|refine qp 15 ?_|refine bl0 [7] ?_|refine bl0 [15] ?_|refine zd ?_ ?_<;>intro h<;>try omega|refine zy ?_|fail)<;>conv=>whnf
 all_goals first
  |(exfalso;simp_all;done)
  |exact b43 (by rw [Rat.add_comm];rfl) rfl
theorem aH9 (cs:List G5) (rs:List z4) (hl:cs.length<=1000000) (hl2:rs.length<=1000000) (scale reading day:Int):
 a9 Tryz.prog 224 [.c (.t (W5 cs)),.c (.t (G1 rs)),a7 .i64 scale,a7 .i64 reading,a7 .i64 day] [] (.tup (ivL (H6 cs rs scale reading day))) []:=by
 have f:=b65 cs scale day hl
 have r:=aA8 rs hl2 scale day
 have wi:=a88 reading 0 1099511627776
 unfold H6
 cases hf:x5 cs scale day cs.length with
 |none=>
  rw [hf] at f
  (refine ac Tryz.func224 ?_;(conv=>whnf);repeat (refine zy ?_;conv=>whnf))
  repeat' (first|refine zz ?_|refine qp f ?_|refine qp r ?_|refine qp wi ?_|refine qp 1 ?_|refine bl0 [1] ?_|refine zd ?_ ?_<;>intro h<;>try omega|refine zy ?_|fail)<;>conv=>whnf
  all_goals first
   |(exfalso;simp_all;done)
   |exact k5 ⟨⟨rfl,rfl,rfl,rfl,trivial⟩,⟨rfl,rfl,rfl,rfl,trivial⟩,rfl,trivial⟩
 |some i=>
  rw [hf] at f
  obtain ⟨hb,c,hc,_,hcv⟩:=I4 hf
  have e:a0n cs i=c:=by unfold a0n;rw [hc];rfl
  simp only [e]
  cases hrec:a1f rs scale day with
  |true=>
   rw [hrec] at r
   (refine ac Tryz.func224 ?_;(conv=>whnf);repeat (refine zy ?_;conv=>whnf))
   repeat' (first|refine zz ?_|refine qp f ?_|refine qp r ?_|refine qp wi ?_|refine qp 1 ?_|refine bl0 [1] ?_|refine zd ?_ ?_<;>intro h<;>try omega|refine zy ?_|fail)<;>conv=>whnf
   all_goals first
    |(exfalso;simp_all;done)
    |exact k5 ⟨⟨rfl,rfl,rfl,rfl,trivial⟩,⟨rfl,rfl,rfl,rfl,trivial⟩,rfl,trivial⟩
  |false=>
   rw [hrec] at r
   cases hr:btw reading 0 1099511627776 with
   |false=>
    rw [hr] at wi
    (refine ac Tryz.func224 ?_;(conv=>whnf);repeat (refine zy ?_;conv=>whnf))
    repeat' (first|refine zz ?_|refine qp f ?_|refine qp r ?_|refine qp wi ?_|refine qp 1 ?_|refine bl0 [1] ?_|refine zd ?_ ?_<;>intro h<;>try omega|refine zy ?_|fail)<;>conv=>whnf
    all_goals first
     |exact k5 ⟨⟨rfl,rfl,rfl,rfl,trivial⟩,⟨rfl,rfl,rfl,rfl,trivial⟩,rfl,trivial⟩
     |(exfalso;simp_all;done)
   |true=>
    have er:=b2t c reading day hcv hr
    have l1:=aP3 hcv hr
    rw [hr] at wi
    rw [S4] at hr
    have l2:rl (reading:Rat)<=4:=by rw [a1c];have:=P6 (x:=reading) (by omega) (by omega);omega
    have fi:=a2b reading (by omega) (by omega)
    have f0:=a2b 0 (by omega) (by omega)
    have sb:=b6E (reading:Rat) (a1I c reading day) (by omega) (by omega)
    have ad:=aG9 (reading:Rat) (a1I c reading day) (by omega) (by omega)
    have l4:=ao2 (reading:Rat) (a1I c reading day)
    have sg:=a0S ((reading:Rat) - a1I c reading day) (by omega)
    have hs:=b2b ((reading:Rat) - a1I c reading day)
    (refine ac Tryz.func224 ?_;(conv=>whnf);repeat (refine zy ?_;conv=>whnf))
    repeat' (first|refine zz ?_|refine qp f ?_|refine qp r ?_|refine qp wi ?_|refine qp er ?_|refine qp fi ?_|refine qp f0 ?_|refine qp sb ?_|refine qp ad ?_|refine qp sg ?_|refine qp 1 ?_|refine qp 9 ?_|refine qp 6 ?_|refine b8 hc ?_|refine bl0 [1] ?_|refine bl0 [9] ?_|refine bl0 [6] ?_|refine zd ?_ ?_<;>intro h<;>try omega|refine zy ?_|fail)<;>conv=>whnf
    ·have hn:(reading:Rat) - a1I c reading day<((0:Int):Rat):=hs.1 (by omega)
     refine k5 ⟨b2Z ?_,⟨rfl,rfl,rfl,rfl,trivial⟩,rfl,trivial⟩
     unfold at3;rw [if_pos hn]
    ·have hn:¬(reading:Rat) - a1I c reading day<((0:Int):Rat):=fun h=>absurd (hs.2 h) (by omega)
     refine k5 ⟨b2Z ?_,⟨rfl,rfl,rfl,rfl,trivial⟩,rfl,trivial⟩
     unfold at3;rw [if_neg hn]
    all_goals (have hq:(some i).isSome=false:=by assumption;cases hq)
theorem a5X (n lo hi:Int):a9 Tryz.prog 157 [a7 .i64 n,a7 .i64 lo,a7 .i64 hi] [] (f5 (btw n lo hi)) []:=by
 (refine ac Tryz.func157 ?_;(conv=>whnf);repeat (refine zy ?_;conv=>whnf))
 repeat' (first|refine zz ?_|refine zd ?_ ?_<;>intro h<;>try omega|refine zy ?_|fail)<;>conv=>whnf
 all_goals (refine b9 ?_;simp only [btw];simp;omega)
theorem a1R (n m:Int):a9 Tryz.prog 157 [a7 .i64 n,a7 .i64 0,a7 .i64 (m - 1)] [] (f5 (idx n m)) []:=by
 rw [← b05];exact a5X n 0 (m - 1)
theorem b5P (e:Ev) (hs:e.Sized):a9 Tryz.prog 231 [evS e] [] (f5 (a1j e)) []:=by
 have l1:(e.places.map C8.row).length=e.places.length:=by simp
 have l2:(e.moves.map p6.row).length=e.moves.length:=by simp
 have l3:(e.certs.map G5.row).length=e.certs.length:=by simp
 have l4:(e.recalls.map z4.row).length=e.recalls.length:=by simp
 have l5:(e.purities.map a0p.row).length=e.purities.length:=by simp
 (refine ac Tryz.func231 ?_;(conv=>whnf);repeat ((first|refine b0x ?_|refine zy ?_);conv=>whnf))
 repeat' (first|refine zz ?_|refine zd ?_ ?_<;>intro h<;>try omega|refine zy ?_|fail)<;>conv=>whnf
 all_goals (refine b9 ?_;unfold a1j;simp;omega)
theorem b4b (e:Ev) (p:C8) (h1:1<=e.mats) (h2:e.mats<=6) (h3:0<=e.hhs) (h4:e.hhs<=100):a9 Tryz.prog 232 [evS e,.agg (p.row.map .t)] [] (f5 (S1 e p)) []:=by
 have i3:=a1R p.kind 7
 (refine ac Tryz.func232 ?_;(conv=>whnf);repeat ((first|refine b0x ?_|refine zy ?_);conv=>whnf))
 repeat' (first|refine zz ?_|refine qp (a1R p.hh e.hhs) ?_|refine qp (a1R p.mat e.mats) ?_|refine qp i3 ?_|refine zd ?_ ?_<;>intro h<;>try omega|refine zy ?_|fail)<;>conv=>whnf
 all_goals first
  |omega
  |(refine b9 ?_;simp_all [S1]<;>decide)
def a1D (e:Ev) (k:Nat) (x:p6):Int:=if x.day<0∨100000<x.day∨(0<k∧x.day<a2d e k) then 17 else if D2 e x then 0 else 1
set_option maxHeartbeats 4000000 in
theorem b67 (e:Ev) (k:Nat) (x:p6) (hx:e.moves[k]? =some x) (hf:a1j e=false) (h1:1<=e.mats) (h3:0<=e.hhs) (h5:0<=e.scs):a9 Tryz.prog 233 [evS e,a7 .i64 k] [] (a7 .i64 (a1D e k x)) []:=by
 have l1:(e.places.map C8.row).length=e.places.length:=by simp
 have l2:(e.moves.map p6.row).length=e.moves.length:=by simp
 have hk:k<e.moves.length:=(lg1 hx).1
 unfold a1j at hf
 simp only [Bool.or_eq_false_iff,decide_eq_false_iff_not] at hf
 obtain ⟨y,hy⟩:∃y,e.moves[k - 1]? =some y:=⟨_,lg0 (by omega)⟩
 have hl:0<k->a2d e k=y.day:=fun h=>by
  obtain ⟨j,rfl⟩:∃j,k=j+1:=⟨k - 1,by omega⟩
  exact a0O hy
 have d:=a5X x.day 0 100000
 have is:=a1R x.src (e.places.map C8.row).length
 have id:=a1R x.dst (e.places.map C8.row).length
 have ic:=a1R x.scale e.scs
 have ir:=a5X x.reading 0 1099511627776
 have hdd:(x.day<0∨100000<x.day∨(0<k∧x.day<a2d e k))↔(x.day<0∨100000<x.day∨(0<k∧x.day<y.day)):=by
  rcases Nat.eq_zero_or_pos k with h|h
  ·simp [h]
  ·rw [hl h]
 clear hl
 have em:(if (0:Int) > (k:Int) - 1 then 0 else (k:Int) - 1)=((k - 1:Nat):Int):=by split<;>omega
 by_cases hd:x.day<0∨100000<x.day∨(0<k∧x.day<y.day)
 ·have e1:a1D e k x=17:=by unfold a1D;rw [if_pos (hdd.2 hd)]
  clear hdd
  rw [e1]
  have hb:=S4 (a:=x.day) (b:=0) (c:=100000)
  (refine ac Tryz.func233 ?_;(conv=>whnf);repeat ((first|refine b0x ?_|refine zy ?_);conv=>whnf))
  repeat' (first|refine zz ?_|refine qp d ?_|refine b8 hx ?_|refine E6 em hy ?_|refine zd ?_ ?_<;>intro h<;>try omega|refine zy ?_|fail)<;>conv=>whnf
  all_goals first
   |exact i6 rfl
   |(exfalso;have:=hb.1 (by assumption);omega)
   |omega
 have e1:a1D e k x=if D2 e x then 0 else 1:=by unfold a1D;rw [if_neg (fun h=>hd (hdd.1 h))]
 clear hdd
 rw [e1]
 have hd':btw x.day 0 100000=true:=by rw [S4];omega
 rw [hd'] at d
 cases h1:idx x.src e.places.length with
 |false=>
  rw [← l1] at h1
  rw [h1] at is
  rw [l1] at h1
  (refine ac Tryz.func233 ?_;(conv=>whnf);repeat ((first|refine b0x ?_|refine zy ?_);conv=>whnf))
  repeat' (first|refine zz ?_|refine qp d ?_|refine qp is ?_|refine b8 hx ?_|refine E6 em hy ?_|refine zd ?_ ?_<;>intro h<;>try omega|refine zy ?_|fail)<;>conv=>whnf
  all_goals first
   |(refine i6 ?_;simp [D2,h1];done)
   |(exfalso;simp_all;done)
   |omega
 |true=>
  obtain ⟨hs0,p,hp,kp⟩:=a4I h1
  rw [← l1] at h1
  rw [h1] at is
  rw [l1] at h1
  cases h2:idx x.dst e.places.length with
  |false=>
   rw [← l1] at h2
   rw [h2] at id
   rw [l1] at h2
   (refine ac Tryz.func233 ?_;(conv=>whnf);repeat ((first|refine b0x ?_|refine zy ?_);conv=>whnf))
   repeat' (first|refine zz ?_|refine qp d ?_|refine qp is ?_|refine qp id ?_|refine b8 hx ?_|refine E6 em hy ?_|refine zd ?_ ?_<;>intro h<;>try omega|refine zy ?_|fail)<;>conv=>whnf
   all_goals first
    |(refine i6 ?_;simp [D2,h1,h2];done)
    |(exfalso;simp_all;done)
    |omega
  |true=>
   obtain ⟨hd0,q,hq,kq⟩:=a4I h2
   rw [← l1] at h2
   rw [h2] at id
   rw [l1] at h2
   (refine ac Tryz.func233 ?_;(conv=>whnf);repeat ((first|refine b0x ?_|refine zy ?_);conv=>whnf))
   repeat' (first|refine zz ?_|refine qp d ?_|refine qp is ?_|refine qp id ?_|refine qp ic ?_|refine qp ir ?_|refine b8 hx ?_|refine p4 hs0 hp ?_|refine p4 hd0 hq ?_|refine E6 em hy ?_|refine zd ?_ ?_<;>intro h<;>try omega|refine zy ?_|fail)<;>conv=>whnf
   all_goals first
    |(refine i6 ?_;simp_all [D2];done)
    |(exfalso;simp_all;done)
    |omega
theorem b5r (e:Ev) (hs:e.Sized) (hf:a1j e=false) (h1:1<=e.mats) (h5:0<=e.scs):a9 Tryz.prog 234 [evS e] [] (f5 (T7 e)) []:=by
 have l2:(e.certs.map G5.row).length=e.certs.length:=by simp
 have l4:(e.recalls.map z4.row).length=e.recalls.length:=by simp
 have l6:(e.purities.map a0p.row).length=e.purities.length:=by simp
 have l8:(e.moves.map p6.row).length=e.moves.length:=by simp
 unfold a1j at hf
 simp only [Bool.or_eq_false_iff,decide_eq_false_iff_not] at hf
 (refine ac Tryz.func234 ?_;(conv=>whnf);repeat ((first|refine b0x ?_|refine zy ?_);conv=>whnf))
 repeat' (first|refine zz ?_|refine zd ?_ ?_<;>intro h<;>try omega|refine zy ?_|fail)<;>conv=>whnf
 refine d6 c8 (fun k=>([J,S.c (C.t (T.ptr (evT e))),J,a7 .i64 k,J,J,J,J,J,J,J,J,J,J,J,J,J,J,J,J,J,J,J,J,J,J,J,J,J,J,J,J,J,J,J,J,J,J,J,J,J,J,J,J,J,J,J,J,J,J,J,J,J,J,J,J,J,J,J,J,J,J,J,J,J,J,J,J,J,J,J,J,J,J,J,J,J,J,J,J,J,J,J,J,J,J,J,J,J,J,J,J,J,J,J,J,J,J,J,J,J,J,J,J,J,J,J,J,J,J,J,J,J,J,J,J,J,J,J,J,J,J,J,J,J,J,J,J],[])) e.certs.length (fun k=>(e.certs.take k).all (a2E e)=true) [] rfl
  ⟨rfl,rfl,trivial,⟨rfl,rfl,trivial⟩⟩ ?_
 intro k hk hI
 by_cases hlt:k<e.certs.length
 ·obtain ⟨x,hx⟩:∃x,e.certs[k]? =some x:=⟨_,lg0 hlt⟩
  conv=>whnf
  repeat' (first|refine zz ?_|refine qp (a1R x.scale e.scs) ?_|refine qp (a5X x.till x.since 100000) ?_|refine qp (a5X x.grams 0 1099511627776) ?_|refine qp (a5X x.permille 0 1000) ?_|refine qp (a5X x.drift 0 10000000) ?_|refine b8 hx ?_|refine zd ?_ ?_<;>intro h<;>try omega|refine zy ?_|fail)<;>conv=>whnf
  all_goals first
   |omega
   |(refine ⟨hlt,?_,[],rfl,rfl,trivial,⟨rfl,rfl,trivial⟩⟩;rw [p7 hx,hI];simp_all [a2E,btw];done)
   |(refine b9 ?_;rw [T7,u9 hx];rfl;simp_all [a2E,btw];(try omega);done)
 ·have hc:e.certs.all (a2E e)=true:=by rw [← hI,lg4 (by omega)]
  conv=>whnf
  repeat' (first|refine zz ?_|refine zd ?_ ?_<;>intro h<;>try omega|refine zy ?_|fail)<;>conv=>whnf
  all_goals try omega
  clear hI hlt hk
  refine d6 c8 (fun k=>([J,S.c (C.t (T.ptr (evT e))),J,J,J,a7 .i64 k,J,J,J,J,J,J,J,J,J,J,J,J,J,J,J,J,J,J,J,J,J,J,J,J,J,J,J,J,J,J,J,J,J,J,J,J,J,J,J,J,J,J,J,J,J,J,J,J,J,J,J,J,J,J,J,J,J,J,J,J,J,J,J,J,J,J,J,J,J,J,J,J,J,J,J,J,J,J,J,J,J,J,J,J,J,J,J,J,J,J,J,J,J,J,J,J,J,J,J,J,J,J,J,J,J,J,J,J,J,J,J,J,J,J,J,J,J,J,J,J,J,J],[])) e.recalls.length (fun k=>(e.recalls.take k).all (W9 e)=true) [] rfl
   ⟨rfl,rfl,trivial,⟨rfl,rfl,trivial⟩⟩ ?_
  intro k hk hI
  by_cases hlt:k<e.recalls.length
  ·obtain ⟨x,hx⟩:∃x,e.recalls[k]? =some x:=⟨_,lg0 hlt⟩
   conv=>whnf
   repeat' (first|refine zz ?_|refine qp (a1R x.scale e.scs) ?_|refine qp (a5X x.since 0 100000) ?_|refine b8 hx ?_|refine zd ?_ ?_<;>intro h<;>try omega|refine zy ?_|fail)<;>conv=>whnf
   all_goals first
    |omega
    |(refine ⟨hlt,?_,[],rfl,rfl,trivial,⟨rfl,rfl,trivial⟩⟩;rw [p7 hx,hI];simp_all [W9];done)
    |(refine b9 ?_;rw [T7,hc,u9 hx];rfl;simp_all [W9];done)
  ·have hr:e.recalls.all (W9 e)=true:=by rw [← hI,lg4 (by omega)]
   conv=>whnf
   repeat' (first|refine zz ?_|refine zd ?_ ?_<;>intro h<;>try omega|refine zy ?_|fail)<;>conv=>whnf
   all_goals try omega
   clear hI hlt hk
   refine d6 c8 (fun k=>([J,S.c (C.t (T.ptr (evT e))),J,J,J,J,a7 .i64 k,J,J,J,J,J,J,J,J,J,J,J,J,J,J,J,J,J,J,J,J,J,J,J,J,J,J,J,J,J,J,J,J,J,J,J,J,J,J,J,J,J,J,J,J,J,J,J,J,J,J,J,J,J,J,J,J,J,J,J,J,J,J,J,J,J,J,J,J,J,J,J,J,J,J,J,J,J,J,J,J,J,J,J,J,J,J,J,J,J,J,J,J,J,J,J,J,J,J,J,J,J,J,J,J,J,J,J,J,J,J,J,J,J,J,J,J,J,J,J,J,J],[])) e.purities.length (fun k=>(e.purities.take k).all (W8 e)=true) [] rfl
    ⟨rfl,rfl,trivial,⟨rfl,rfl,trivial⟩⟩ ?_
   intro k hk hI
   by_cases hlt:k<e.purities.length
   ·obtain ⟨x,hx⟩:∃x,e.purities[k]? =some x:=⟨_,lg0 hlt⟩
    conv=>whnf
    repeat' (first|refine zz ?_|refine qp (a1R x.move (e.moves.map p6.row).length) ?_|refine qp (a1R x.mat e.mats) ?_|refine qp (a5X x.most x.least 1000) ?_|refine b8 hx ?_|refine zd ?_ ?_<;>intro h<;>try omega|refine zy ?_|fail)<;>conv=>whnf
    all_goals first
     |omega
     |(refine ⟨hlt,?_,[],rfl,rfl,trivial,⟨rfl,rfl,trivial⟩⟩;rw [p7 hx,hI];simp_all [W8,btw];done)
     |(refine b9 ?_;rw [T7,hc,hr,u9 hx];rfl;simp_all [W8,btw];(try omega);done)
   ·have hp:e.purities.all (W8 e)=true:=by rw [← hI,lg4 (by omega)]
    conv=>whnf
    repeat' (first|refine zz ?_|refine zd ?_ ?_<;>intro h<;>try omega|refine zy ?_|fail)<;>conv=>whnf
    all_goals first
     |omega
     |(refine b9 ?_;rw [T7,hc,hr,hp];rfl)
theorem b1I (e:Ev) (hs:e.Sized):a9 Tryz.prog 155 [evS e] [] (a7 .i64 (z6 e)) []:=by
 have l1:(e.places.map C8.row).length=e.places.length:=by simp
 have l8:(e.moves.map p6.row).length=e.moves.length:=by simp
 have fu:=b5P e hs
 cases hf:a1j e with
 |true=>
  rw [hf] at fu
  (refine ac Tryz.func155 ?_;(conv=>whnf);repeat ((first|refine b0x ?_|refine zy ?_);conv=>whnf))
  repeat' (first|refine zz ?_|refine qp fu ?_|refine zd ?_ ?_<;>intro h<;>try omega|refine zy ?_|fail)<;>conv=>whnf
  all_goals first
   |(exfalso;simp_all;done)
   |(refine i6 ?_;unfold z6;rw [if_pos hf])
 |false=>
  rw [hf] at fu
  by_cases hb:e.mats<1∨e.hhs<0∨e.scs<0
  ·have e1:z6 e=1:=by
    unfold z6;rw [if_neg (by simp [hf]),if_pos (by rcases hb with h|h|h<;>simp [h])]
   rw [e1]
   (refine ac Tryz.func155 ?_;(conv=>whnf);repeat ((first|refine b0x ?_|refine zy ?_);conv=>whnf))
   repeat' (first|refine zz ?_|refine qp fu ?_|refine zd ?_ ?_<;>intro h<;>try omega|refine zy ?_|fail)<;>conv=>whnf
   all_goals first
    |(exfalso;simp_all;done)
    |omega
    |exact i6 rfl
  have hfb:=hf
  unfold a1j at hfb
  simp only [Bool.or_eq_false_iff,decide_eq_false_iff_not] at hfb
  (refine ac Tryz.func155 ?_;(conv=>whnf);repeat ((first|refine b0x ?_|refine zy ?_);conv=>whnf))
  repeat' (first|refine zz ?_|refine qp fu ?_|refine zd ?_ ?_<;>intro h<;>try omega|refine zy ?_|fail)<;>conv=>whnf
  all_goals try omega
  refine d6 c8 (fun k=>([J,S.c (C.t (T.ptr (evT e))),J,a7 .i64 k,J,J,J,J,J,J,J,J,J,J,J,J,J,J,J,J,J,J,J,J,J,J,J,J,J,J,J,J,J,J,J,J,J,J,J,J,J,J,J,J,J,J,J,J,J,J,J,J],[])) e.places.length (fun k=>(e.places.take k).all (S1 e)=true) [] rfl
   ⟨rfl,rfl,trivial,⟨rfl,rfl,trivial⟩⟩ ?_
  intro k hk hI
  by_cases hlt:k<e.places.length
  ·obtain ⟨x,hx⟩:∃x,e.places[k]? =some x:=⟨_,lg0 hlt⟩
   have pl:=b4b e x (by omega) (by omega) (by omega) (by omega)
   conv=>whnf
   repeat' (first|refine zz ?_|refine qp pl ?_|refine b8 hx ?_|refine zd ?_ ?_<;>intro h<;>try omega|refine zy ?_|fail)<;>conv=>whnf
   all_goals first
    |omega
    |(refine ⟨hlt,?_,[],rfl,rfl,trivial,⟨rfl,rfl,trivial⟩⟩;rw [p7 hx,hI];simp_all;done)
    |(refine i6 ?_;unfold z6;rw [if_neg (by simp [hf]),if_pos (.inr (.inr (.inr (u9 hx (by assumption)))))])
  have hp:e.places.all (S1 e)=true:=by rw [← hI,lg4 (by omega)]
  have hck:z6 e=if u6 e 0 e.moves≠0 then u6 e 0 e.moves else if T7 e then 0 else 1:=by
   unfold z6;rw [if_neg (by simp [hf]),if_neg (by rw [hp];simp;omega)]
  conv=>whnf
  repeat' (first|refine zz ?_|refine zd ?_ ?_<;>intro h<;>try omega|refine zy ?_|fail)<;>conv=>whnf
  all_goals try omega
  clear hI hlt hk
  refine d6 c8 (fun k=>([J,S.c (C.t (T.ptr (evT e))),J,J,a7 .i64 k,J,J,J,J,J,J,J,J,J,J,J,J,J,J,J,J,J,J,J,J,J,J,J,J,J,J,J,J,J,J,J,J,J,J,J,J,J,J,J,J,J,J,J,J,J,J,J],[])) e.moves.length (fun k=>u6 e 0 e.moves=u6 e (a2d e k) (e.moves.drop k)∧0<=a2d e k) [] ⟨rfl,Int.le_refl 0⟩
   ⟨rfl,rfl,trivial,⟨rfl,rfl,trivial⟩⟩ ?_
  rintro k hk ⟨hI,hI2⟩
  by_cases hlt:k<e.moves.length
  ·obtain ⟨x,hx⟩:∃x,e.moves[k]? =some x:=⟨_,lg0 hlt⟩
   have mv:=b67 e k x hx hf (by omega) (by omega) (by omega)
   rw [X0 hx,u6] at hI
   have hm:u6 e 0 e.moves=if a1D e k x=0 then u6 e x.day (e.moves.drop (k+1)) else a1D e k x:=by
    rw [hI]
    unfold a1D
    have hk0:k=0->a2d e k=0:=fun h=>by subst h;rfl
    by_cases h1:x.day<a2d e k∨100000<x.day
    ·rw [if_pos h1,if_pos (c:=x.day<0∨100000<x.day∨(0<k∧x.day<a2d e k)) (by omega)];simp
    ·rw [if_neg h1,if_neg (c:=x.day<0∨100000<x.day∨(0<k∧x.day<a2d e k)) (by omega)]
     cases D2 e x<;>simp
   have hv:a1D e k x=0->0<=x.day:=fun h=>by unfold a1D at h;split at h<;>omega
   have hm0:a1D e k x=0->u6 e 0 e.moves=u6 e x.day (e.moves.drop (k+1)):=fun h=>by rw [hm,if_pos h]
   have hm1:a1D e k x≠0->u6 e 0 e.moves=a1D e k x:=fun h=>by rw [hm,if_neg h]
   clear hm hI
   conv=>whnf
   repeat' (first|refine zz ?_|refine qp mv ?_|refine zd ?_ ?_<;>intro h<;>try omega|refine zy ?_|fail)<;>conv=>whnf
   all_goals first
    |omega
    |(refine ⟨hlt,⟨?_,?_⟩,[],rfl,rfl,trivial,⟨rfl,rfl,trivial⟩⟩
      ·rw [a0O hx];exact hm0 (by omega)
      ·rw [a0O hx];exact hv (by omega))
    |(refine i6 ?_
      have hne:a1D e k x≠0:=by omega
      rw [hck,hm1 hne,if_pos hne])
  ·rw [List.drop_eq_nil_of_le (by omega),u6] at hI
   have sd:=b5r e hs hf (by omega) (by omega)
   conv=>whnf
   repeat' (first|refine zz ?_|refine qp sd ?_|refine zd ?_ ?_<;>intro h<;>try omega|refine zy ?_|fail)<;>conv=>whnf
   all_goals first
    |omega
    |(refine i6 ?_;rw [hck,hI];simp_all;done)
theorem ax8 (e:Ev) (hs:e.Sized) {k:Nat} {x:p6} (hx:e.moves[k]? =some x):a9 Tryz.prog 151 [evS e,a7 .i64 k] [] (.tup (ivL (C3 e x))) []:=by
 have l1:=hs.s3
 have l2:=hs.s4
 have iv:=aH9 e.certs e.recalls (by omega) (by omega) x.scale x.reading x.day
 unfold C3
 by_cases hsc:x.scale=-1
 ·rw [if_pos hsc]
  (refine ac Tryz.func151 ?_;(conv=>whnf);repeat ((first|refine b0x ?_|refine zy ?_);conv=>whnf))
  repeat' (first|refine zz ?_|refine qp 1 ?_|refine b8 hx ?_|refine bl0 [1] ?_|refine zd ?_ ?_<;>intro h<;>try omega|refine zy ?_|fail)<;>conv=>whnf
  all_goals first
   |omega
   |exact k5 ⟨⟨rfl,rfl,rfl,rfl,trivial⟩,⟨rfl,rfl,rfl,rfl,trivial⟩,rfl,trivial⟩
 ·rw [if_neg hsc]
  cases hiv:H6 e.certs e.recalls x.scale x.reading x.day with
  |none=>
   rw [hiv] at iv
   (refine ac Tryz.func151 ?_;(conv=>whnf);repeat ((first|refine b0x ?_|refine zy ?_);conv=>whnf))
   repeat' (first|refine zz ?_|refine qp iv ?_|refine b8 hx ?_|refine zd ?_ ?_<;>intro h<;>try omega|refine zy ?_|fail)<;>conv=>whnf
   all_goals first
    |omega
    |exact k5 ⟨⟨rfl,rfl,rfl,rfl,trivial⟩,⟨rfl,rfl,rfl,rfl,trivial⟩,rfl,trivial⟩
  |some p=>
   obtain ⟨lo,hi⟩:=p
   rw [hiv] at iv
   (refine ac Tryz.func151 ?_;(conv=>whnf);repeat ((first|refine b0x ?_|refine zy ?_);conv=>whnf))
   repeat' (first|refine zz ?_|refine qp iv ?_|refine b8 hx ?_|refine zd ?_ ?_<;>intro h<;>try omega|refine zy ?_|fail)<;>conv=>whnf
   all_goals first
    |omega
    |exact k5 ⟨⟨rfl,rfl,rfl,rfl,trivial⟩,⟨rfl,rfl,rfl,rfl,trivial⟩,rfl,trivial⟩
theorem aU6 (e:Ev) (mv kind:Int):a9 Tryz.prog 156 [evS e,a7 .i64 mv,a7 .i64 kind] [] (a7 .i64 (a0z e mv kind)) []:=by
 have l2:(e.moves.map p6.row).length=e.moves.length:=by simp
 (refine ac Tryz.func156 ?_;(conv=>whnf);repeat ((first|refine b0x ?_|refine zy ?_);conv=>whnf))
 repeat' (first|refine zz ?_|refine zd ?_ ?_<;>intro h<;>try omega|refine zy ?_|fail)<;>conv=>whnf
 all_goals (refine i6 ?_;unfold a0z;(repeat' split)<;>first|rfl|omega)
theorem aE0 (t:e7) (hs:t.Sized):a9 Tryz.prog 85 [trS t] [] (a7 .i64 (o9 t)) []:=by
 have l1:=hs.f
 have l2:=hs.c
 have ck:=b1I t.ev hs.ev
 have m1:(t.finds.map L7.row).length=t.finds.length:=by simp
 have m2:(t.cleans.map Q6.row).length=t.cleans.length:=by simp
 by_cases h0:z6 t.ev≠0
 ·have e1:o9 t=z6 t.ev:=by unfold o9;rw [if_pos h0]
  rw [e1]
  (refine ac Tryz.func85 ?_;(conv=>whnf);repeat ((first|refine b0x ?_|refine zy ?_);conv=>whnf))
  repeat' (first|refine zz ?_|refine qp ck ?_|refine zd ?_ ?_<;>intro h<;>try omega|refine zy ?_|fail)<;>conv=>whnf
  all_goals first
   |omega
   |exact i6 rfl
 have h0:z6 t.ev=0:=by omega
 rw [h0] at ck
 by_cases h1:20<t.finds.length∨50<t.cleans.length
 ·have e1:o9 t=6:=by unfold o9;rw [if_neg (by omega),if_pos h1]
  rw [e1]
  (refine ac Tryz.func85 ?_;(conv=>whnf);repeat ((first|refine b0x ?_|refine zy ?_);conv=>whnf))
  repeat' (first|refine zz ?_|refine qp ck ?_|refine zd ?_ ?_<;>intro h<;>try omega|refine zy ?_|fail)<;>conv=>whnf
  all_goals first
   |omega
   |exact i6 rfl
 have e1:o9 t=if J0 t.ev t.finds≠0 then J0 t.ev t.finds else J4 t.ev t.cleans:=by unfold o9;rw [if_neg (by omega),if_neg h1]
 rw [e1]
 (refine ac Tryz.func85 ?_;(conv=>whnf);repeat ((first|refine b0x ?_|refine zy ?_);conv=>whnf))
 repeat' (first|refine zz ?_|refine qp ck ?_|refine zd ?_ ?_<;>intro h<;>try omega|refine zy ?_|fail)<;>conv=>whnf
 all_goals try omega
 refine d6 c8 (fun k=>([J,S.c (C.t (T.ptr (trT t))),J,J,a7 .i64 k,J,J,J,J,J,J,J,J,J,J,J,J,J,J,J,J,J,J,J,J,J,J,J,J,J,J,J,J,J,J,J,J,J,J,J,J,J,J,J,J,J,J,J,J,J,J,J,J,J,J,J,J,J,J,J,J,J,J,J,J,J,J,J,J,J,J,J,J,J,J,J,J,J],[])) t.finds.length (fun k=>J0 t.ev t.finds=J0 t.ev (t.finds.drop k)) [] rfl
  ⟨rfl,rfl,trivial,⟨rfl,rfl,trivial⟩⟩ ?_
 intro k hk hI
 by_cases hlt:k<t.finds.length
 ·obtain ⟨f,hf⟩:∃f,t.finds[k]? =some f:=⟨_,lg0 hlt⟩
  have mk:=aU6 t.ev f.mv f.kind
  rw [X0 hf,J0] at hI
  by_cases hm:a0z t.ev f.mv f.kind≠0
  ·rw [if_pos hm] at hI
   rw [hI,if_pos hm]
   conv=>whnf
   repeat' (first|refine zz ?_|refine qp mk ?_|refine b8 hf ?_|refine zd ?_ ?_<;>intro h<;>try omega|refine zy ?_|fail)<;>conv=>whnf
   all_goals first
    |omega
    |exact i6 rfl
  ·rw [if_neg hm] at hI
   by_cases hg:f.grams<1∨1099511627776<f.grams
   ·rw [if_pos hg] at hI
    rw [hI]
    conv=>whnf
    repeat' (first|refine zz ?_|refine qp mk ?_|refine b8 hf ?_|refine zd ?_ ?_<;>intro h<;>try omega|refine zy ?_|fail)<;>conv=>whnf
    all_goals first
     |omega
     |exact i6 rfl
   ·rw [if_neg hg] at hI
    conv=>whnf
    repeat' (first|refine zz ?_|refine qp mk ?_|refine b8 hf ?_|refine zd ?_ ?_<;>intro h<;>try omega|refine zy ?_|fail)<;>conv=>whnf
    all_goals first
     |omega
     |exact ⟨hlt,hI,[],rfl,rfl,trivial,⟨rfl,rfl,trivial⟩⟩
 ·rw [List.drop_of_length_le (by omega)] at hI
  have hI:J0 t.ev t.finds=0:=hI
  rw [hI,if_neg (by omega)]
  conv=>whnf
  repeat' (first|refine zz ?_|refine zd ?_ ?_<;>intro h<;>try omega|refine zy ?_|fail)<;>conv=>whnf
  all_goals try omega
  refine d6 c8 (fun k=>([J,S.c (C.t (T.ptr (trT t))),J,J,J,J,a7 .i64 k,J,J,J,J,J,J,J,J,J,J,J,J,J,J,J,J,J,J,J,J,J,J,J,J,J,J,J,J,J,J,J,J,J,J,J,J,J,J,J,J,J,J,J,J,J,J,J,J,J,J,J,J,J,J,J,J,J,J,J,J,J,J,J,J,J,J,J,J,J,J,J],[])) t.cleans.length (fun k=>J4 t.ev t.cleans=J4 t.ev (t.cleans.drop k)) [] rfl
   ⟨rfl,rfl,trivial,⟨rfl,rfl,trivial⟩⟩ ?_
  intro j hj hJ
  by_cases hjt:j<t.cleans.length
  ·obtain ⟨c,hc⟩:∃c,t.cleans[j]? =some c:=⟨_,lg0 hjt⟩
   have mk:=aU6 t.ev c.mv c.kind
   rw [X0 hc,J4] at hJ
   by_cases hm:a0z t.ev c.mv c.kind≠0
   ·rw [if_pos hm] at hJ
    rw [hJ]
    conv=>whnf
    repeat' (first|refine zz ?_|refine qp mk ?_|refine b8 hc ?_|refine zd ?_ ?_<;>intro h<;>try omega|refine zy ?_|fail)<;>conv=>whnf
    all_goals first
     |omega
     |exact i6 rfl
   ·rw [if_neg hm] at hJ
    conv=>whnf
    repeat' (first|refine zz ?_|refine qp mk ?_|refine b8 hc ?_|refine zd ?_ ?_<;>intro h<;>try omega|refine zy ?_|fail)<;>conv=>whnf
    all_goals first
     |omega
     |exact ⟨hjt,hJ,[],rfl,rfl,trivial,⟨rfl,rfl,trivial⟩⟩
  ·rw [List.drop_of_length_le (by omega)] at hJ
   have hJ:J4 t.ev t.cleans=0:=hJ
   rw [hJ]
   conv=>whnf
   repeat' (first|refine zz ?_|refine zd ?_ ?_<;>intro h<;>try omega|refine zy ?_|fail)<;>conv=>whnf
   all_goals first
    |omega
    |exact i6 rfl
theorem b3O (t:e7) (hs:t.Sized) (kind:Int):a9 Tryz.prog 149 [trS t,a7 .i64 kind] [] (f5 (decide (o9 t=0∧0<=kind∧kind<8))) []:=by
 have ck:=aE0 t hs
 (refine ac Tryz.func149 ?_;(conv=>whnf);repeat ((first|refine b0x ?_|refine zy ?_);conv=>whnf))
 repeat' (first|refine zz ?_|refine qp ck ?_|refine zd ?_ ?_<;>intro h<;>try omega|refine zy ?_|fail)<;>conv=>whnf
 all_goals (refine b9 ?_;simp;try omega)
theorem a8t (v n:Int) (h1:-9223372036854775808<=n) (h2:n<=9223372036854775807):a9 Tryz.prog 223 [a7 .i64 v,a7 .i64 n] [] (.agg ((i9 (v,(n:Rat))).map .t)) []:=by
 have i1:=a2b n h1 h2
 (refine ac Tryz.func223 ?_;(conv=>whnf);repeat ((first|refine b0x ?_|refine zy ?_);conv=>whnf))
 repeat' (first|refine zz ?_|refine qp i1 ?_|refine zd ?_ ?_<;>intro h<;>try omega|refine zy ?_|fail)<;>conv=>whnf
 exact k5 ⟨rfl,rfl,rfl,rfl,rfl,trivial⟩
theorem aK2 (i:Nat) (kind:Int) (v:Rat):a9 Tryz.prog 152 [a7 .i64 i,a7 .i64 kind,frS (fz v)] [] (az2 (n6 i kind v)) []:=by
 have i1:=a8t i 1 (by decide) (by decide)
 (refine ac Tryz.func152 ?_;(conv=>whnf);repeat ((first|refine b0x ?_|refine zy ?_);conv=>whnf))
 repeat' (first|refine zz ?_|refine qp i1 ?_|refine a3n.weak ?_|refine zd ?_ ?_<;>intro h<;>try omega|refine zy ?_|fail)<;>conv=>whnf
 exact k5 ⟨rfl,rfl,rfl,rfl,rfl,rfl,trivial⟩
abbrev b9z (f:Fr):Blk:={ mode:=.live,elem:=83,size:=4,rows:=[frC f],box:=true }
theorem aQ1 (f:Fr):G4 [frC f]:=by simp [G4,frC,j5,C.isT]
set_option maxHeartbeats 4000000 in
theorem b3a (e:Ev) (h0:z6 e=0) {i:Nat} {x:p6} (hx:e.moves[i]? =some x):a9 Tryz.prog 150 [evS e,a7 .i64 i] [] (az2 (s9 e i x)) []:=by
 obtain ⟨b1,b2,b3,b4⟩:=Q5 h0
 have hi:i<e.moves.length:=(lg1 hx).1
 have m0:(e.moves.map p6.row).length=e.moves.length:=by simp
 have i0:=a2b 0 (by decide) (by decide)
 have im:=a8t i (-1) (by decide) (by decide)
 have hil:=a1B (e:=e) (p:=x.src) i
 cases hal:x.all
 case' false=>have hK:(s9 e i x).kind=0:=by unfold s9;rw [hal];rfl
 case' true=>have hK:(s9 e i x).kind=2:=by unfold s9;rw [hal];rfl
 all_goals
  (refine ac Tryz.func150 ?_;(conv=>whnf);repeat ((first|refine b0x ?_|refine zy ?_);conv=>whnf))
  repeat' (first|refine zz ?_|refine qp i0 ?_|refine b8 hx ?_|refine zd ?_ ?_<;>intro h<;>try omega|refine zy ?_|fail)<;>conv=>whnf
  all_goals first
   |omega
   |(exfalso;simp_all;done)
   |skip
  refine d6 c8 (fun k=>([J,a7 .i64 i,S.c (C.t (T.ptr (evT e))),J,S.c (C.ptr 0 0 0),a7 .i64 x.src,S.c (C.ptr 1 0 0),a7 .i64 k,J,J,J,J,J,J,J,J,J,J,J,J,J,J,J,J,J,J,J,J,J,J,J,J,J,J,J,J,J,J,J,J,J,J,J,J,J,J,J,J,J,J,J,J,J,J,J,J,J,J,J,J,J,J,J,J,J,J],[b6x,b6F 2 (i7 e x.src k).length (s9 e i x).kind,O8 (i7 e x.src k)])) i (fun _=>True) [some 0,some 1,none] trivial ?_ ?_
  ·refine ⟨rfl,rfl,⟨⟨rfl,rfl,rfl,.inr ⟨⟨rfl,rfl,rfl,rfl,rfl,rfl,trivial⟩,trivial⟩⟩,⟨rfl,rfl,rfl,.inr ⟨⟨⟨rfl,rfl,rfl⟩,?_,rfl,rfl,rfl,rfl,trivial⟩,trivial⟩⟩,⟨rfl,rfl⟩,trivial⟩,⟨rfl,rfl,⟨rfl,rfl,rfl⟩,rfl,⟨rfl,rfl,rfl⟩,rfl,trivial⟩⟩
   rw [hK];rfl
  intro k hk _
  have kl:=a1B (e:=e) (p:=x.src) k
  by_cases hlt:k<i
  ·obtain ⟨y,hy⟩:∃y,e.moves[k]? =some y:=⟨_,lg0 (by omega)⟩
   have hmo:=B3 h0 (lg2 hy)
   have hne:y.src≠y.dst:=by unfold D2 at hmo;simp only [Bool.and_eq_true,decide_eq_true_eq] at hmo;exact hmo.1.1.1.1.1.2
   have t1:=a8t k 1 (by decide) (by decide)
   have tm:=a8t k (-1) (by decide) (by decide)
   have lA:(i7 e x.src k).length<=(O8 (i7 e x.src k)).rows.length:=by show _<=(toC _).length;simp [toC]
   have lC:((i7 e x.src k).length+1)*73<=140737488355328:=by omega
   by_cases c1:y.dst=x.src
   ·have et:i7 e x.src (k+1)=i7 e x.src k++[((k:Int),((1:Int):Rat))]:=by rw [Q4 hy,if_pos c1]
    conv=>whnf
    repeat' (first|refine zz ?_|refine qp t1 ?_|refine qp tm ?_|refine b8 hy ?_|refine o7 lA lC ?_|refine zd ?_ ?_<;>intro h<;>try omega|refine zy ?_|fail)<;>conv=>whnf
    all_goals try omega
    refine ⟨hlt,trivial,[some 0,some 1,some 3],rfl,rfl,⟨⟨rfl,rfl,rfl,.inr ⟨⟨rfl,rfl,rfl,rfl,rfl,rfl,trivial⟩,trivial⟩⟩,⟨rfl,rfl,rfl,.inr ⟨⟨⟨rfl,rfl,?_,fun h=>h⟩,rfl,rfl,rfl,rfl,rfl,trivial⟩,trivial⟩⟩,a8 rfl rfl rfl ?_ rfl,trivial⟩,⟨rfl,rfl,⟨rfl,rfl,rfl⟩,rfl,⟨rfl,rfl,rfl⟩,rfl,trivial⟩⟩
    ·rw [et,List.length_append];rfl
    ·rw [et]
     show List.take (i7 e x.src k).length (toC ((i7 e x.src k).map i9))++toC [i9 ((k:Int),((1:Int):Rat))]=_
     exact a0I rfl
   ·by_cases c2:y.src=x.src
    ·have et:i7 e x.src (k+1)=i7 e x.src k++[((k:Int),((-1:Int):Rat))]:=by rw [Q4 hy,if_neg c1,if_pos c2]
     conv=>whnf
     repeat' (first|refine zz ?_|refine qp t1 ?_|refine qp tm ?_|refine b8 hy ?_|refine o7 lA lC ?_|refine zd ?_ ?_<;>intro h<;>try omega|refine zy ?_|fail)<;>conv=>whnf
     all_goals try omega
     refine ⟨hlt,trivial,[some 0,some 1,some 3],rfl,rfl,⟨⟨rfl,rfl,rfl,.inr ⟨⟨rfl,rfl,rfl,rfl,rfl,rfl,trivial⟩,trivial⟩⟩,⟨rfl,rfl,rfl,.inr ⟨⟨⟨rfl,rfl,?_,fun h=>h⟩,rfl,rfl,rfl,rfl,rfl,trivial⟩,trivial⟩⟩,a8 rfl rfl rfl ?_ rfl,trivial⟩,⟨rfl,rfl,⟨rfl,rfl,rfl⟩,rfl,⟨rfl,rfl,rfl⟩,rfl,trivial⟩⟩
     ·rw [et,List.length_append];rfl
     ·rw [et]
      show List.take (i7 e x.src k).length (toC ((i7 e x.src k).map i9))++toC [i9 ((k:Int),((-1:Int):Rat))]=_
      exact a0I rfl
    ·have et:i7 e x.src (k+1)=i7 e x.src k:=by rw [Q4 hy,if_neg c1,if_neg c2]
     conv=>whnf
     repeat' (first|refine zz ?_|refine b8 hy ?_|refine zd ?_ ?_<;>intro h<;>try omega|refine zy ?_|fail)<;>conv=>whnf
     all_goals try omega
     refine ⟨hlt,trivial,[some 0,some 1,some 2],rfl,rfl,⟨⟨rfl,rfl,rfl,.inr ⟨⟨rfl,rfl,rfl,rfl,rfl,rfl,trivial⟩,trivial⟩⟩,⟨rfl,rfl,rfl,.inr ⟨⟨⟨rfl,rfl,?_,fun h=>h⟩,rfl,rfl,rfl,rfl,rfl,trivial⟩,trivial⟩⟩,a8 rfl rfl rfl ?_ rfl,trivial⟩,⟨rfl,rfl,⟨rfl,rfl,rfl⟩,rfl,⟨rfl,rfl,rfl⟩,rfl,trivial⟩⟩
     ·rw [et]
     ·rw [et]
  ·have hke:k=i:=by omega
   subst hke
   have lA:(i7 e x.src k).length<=(O8 (i7 e x.src k)).rows.length:=by show _<=(toC _).length;simp [toC]
   have lC:((i7 e x.src k).length+1)*73<=140737488355328:=by omega
   conv=>whnf
   repeat' (first|refine zz ?_|refine qp im ?_|refine o7 lA lC ?_|refine zd ?_ ?_<;>intro h<;>try omega|refine zy ?_|fail)<;>conv=>whnf
   all_goals try omega
   refine k5 ⟨show VC _ (fun id=>E1 [] id=true) _ _ from t5 rfl rfl (by intro h;cases h) rfl (rows:=(i7 e x.src k++[((k:Int),((-1:Int):Rat))]).map i9) ?_ ?_,rfl,rfl,rfl,rfl,rfl,trivial⟩
   ·show List.take (i7 e x.src k).length (toC ((i7 e x.src k).map i9))++toC [i9 ((k:Int),((-1:Int):Rat))]=_
    exact a0I rfl
   ·rw [List.length_map,List.length_append];rfl
end Go.Proofs.YtdbogogfeffjlaaGreat
