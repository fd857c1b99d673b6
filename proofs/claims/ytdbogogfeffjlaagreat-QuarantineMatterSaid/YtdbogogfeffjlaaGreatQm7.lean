/- Part 7. -/
import Derived.Test.YtdbogogfeffjlaaGreatQm6
namespace Go.Proofs.YtdbogogfeffjlaaGreat
set_option linter.unusedVariables false
set_option linter.unusedSimpArgs false
set_option maxRecDepth 100000
open Go.RowKit
open St1 St2 St3 St4 St5 St6 St7 St8 StA StB
abbrev rEv (t:e7) (kind:Int) (k:Nat):Env:=[J,a7 .i64 kind,S.c (C.t (T.ptr (trT t))),J,S.c (C.ptr 0 0 0),J,S.c (C.ptr 1 0 0),S.c (C.ptr 2 0 0),a7 .i64 k,J,J,J,J,J,J,J,J,J,J,J,J,J,J,J,J,J,J,J,J,J,J,J,J,J,J,J,J,J,J,J,J,J,J,J,J,J,J,J,J,J,J,J,J,J,J,J,J,J,J,J,J,J,J,J,J,J,J,J,J,J,J,J,J,J,J,J,J,J,J,J,J,J,J,J,J,J,J,J,J,J,J,J,J,J,J,J,J,J,J,J,J,J,J,J,J,J,J,J,J,J,J,J,J,J,J,J,J,J,J,J,J,J,J,J,J,J,J,J,J,J,J,J,J,J,J,J,J,J,J,J,J]
abbrev rHp (t:e7) (R:List B1):Hp:=[a0P,evB t.ev,a21 t.ev.moves.length 3 R.length,J2 R]
theorem M4 {t:e7} {R:List B1} {N len:Nat} {H:Hp} {env env':Env} {rs:List (List C)} {kz:Blk} (hz:H[0]? =some kz) (hz2:a3z [some 0,some 1,some 2,some N] H kz a0P) (he:H[1]? =some (evB t.ev))
 (hs:H[2]? =some (a21 t.ev.moves.length N len)) (hr:H[N]? =some { mode:=.live,elem:=143,size:=6,rows:=rs,box:=false }) (hl:len=R.length) (hrs:rs=toC (R.map w5)) (hN:2<N)
 (hE:a0c [some 0,some 1,some 2,some N] H env env'):Ent 0 [some 0,some 1,some 2,some N] env H env' (rHp t R):=by
 have b1:Nat.beq 0 N=false:=by cases h:Nat.beq 0 N with|false=>rfl|true=>exact absurd (Nat.eq_of_beq_eq_true h) (by omega)
 refine ⟨rfl,Z6 fun a b m h1 h2=>?_,⟨?_,?_,?_,?_,trivial⟩,hE⟩
 ·match a,b,h1,h2 with
  |0,0,_,_=>rfl
  |1,1,_,_=>rfl
  |2,2,_,_=>rfl
  |3,3,_,_=>rfl
  |0,1,h1,h2=>simp at h1 h2;omega
  |0,2,h1,h2=>simp at h1 h2;omega
  |0,3,h1,h2=>simp at h1 h2;omega
  |1,0,h1,h2=>simp at h1 h2;omega
  |1,2,h1,h2=>simp at h1 h2;omega
  |1,3,h1,h2=>simp at h1 h2;omega
  |2,0,h1,h2=>simp at h1 h2;omega
  |2,1,h1,h2=>simp at h1 h2;omega
  |2,3,h1,h2=>simp at h1 h2;omega
  |3,0,h1,h2=>simp at h1 h2;omega
  |3,1,h1,h2=>simp at h1 h2;omega
  |3,2,h1,h2=>simp at h1 h2;omega
  |n+4,_,h1,_=>simp at h1
  |0,n+4,_,h2=>simp at h2
  |1,n+4,_,h2=>simp at h2
  |2,n+4,_,h2=>simp at h2
  |3,n+4,_,h2=>simp at h2
 ·simp only [hz];exact hz2
 ·simp only [he];exact ⟨rfl,rfl,rfl,.inl ⟨rfl,j4 _⟩⟩
 ·simp only [hs];exact ⟨rfl,rfl,rfl,.inr ⟨⟨rfl,⟨rfl,rfl,hl,fun h=>h⟩,trivial⟩,trivial⟩⟩
 ·simp only [hr];exact a8 rfl rfl rfl hrs rfl
theorem Z8 {ρ:List (Option Nat)} {H:Hp}:a3z ρ H a0P a0P:=⟨rfl,rfl,rfl,.inr ⟨⟨rfl,rfl,trivial⟩,trivial⟩⟩
theorem b6i (o:Option (Rat × Rat)):∃lo:Fr,ivL o=[frS lo,frS (hiF o),f5 o.isSome]:=by
 cases o with
 |none=>exact ⟨M5,rfl⟩
 |some p=>exact ⟨fz p.1,rfl⟩
theorem b52 {i:Nat} {kind:Int} {f:Fr} {v:Rat} (h:f=fz v):a9 Tryz.prog 152 [a7 .i64 i,a7 .i64 kind,frS f] [] (az2 (n6 i kind v)) []:=by subst h;exact aK2 i kind v
set_option maxHeartbeats 4000000 in
theorem aP6 (t:e7) (kind:Int) (hs:t.Sized) (h1:¬(o9 t≠0∨kind<0∨8<=kind)):a9 Tryz.prog 81 [trS t,a7 .i64 kind] [] (.tup [.agg [.t (ti t.ev.moves.length),.own 0 0 (N6 t kind).rows.length true],a7 .i64 0]) [J2 (N6 t kind).rows]:=by
 have rt:=b3O t hs kind
 have m2:(t.ev.moves.map p6.row).length=t.ev.moves.length:=by simp
 have m4:(t.finds.map L7.row).length=t.finds.length:=by simp
 have m5:(t.cleans.map Q6.row).length=t.cleans.length:=by simp
 obtain ⟨k1,k2,k3⟩:o9 t=0∧0<=kind∧kind<8:=by omega
 rw [decide_eq_true ⟨k1,k2,k3⟩] at rt
 clear h1
 obtain ⟨q1,q2,q3,q4,q5⟩:=p8 k1
 obtain ⟨b1,b2,b3,b4⟩:=Q5 q1
 (refine ac Tryz.func81 ?_;(conv=>whnf);repeat ((first|refine b0x ?_|refine zy ?_);conv=>whnf))
 repeat' (first|refine zz ?_|refine qp rt ?_|refine zd ?_ ?_<;>intro h<;>try omega|refine zy ?_|fail)<;>conv=>whnf
 all_goals try omega
 refine aE8 (fun k=>(rEv t kind k,rHp t (n8 t kind k))) t.ev.moves.length (fun _=>True) [some 0,some 1,some 2,none] trivial ?_ ?_
 ·refine ⟨rfl,rfl,⟨⟨rfl,rfl,rfl,.inr ⟨⟨rfl,rfl,trivial⟩,trivial⟩⟩,⟨rfl,rfl,rfl,.inl ⟨rfl,j4 _⟩⟩,⟨rfl,rfl,rfl,.inr ⟨⟨?_,⟨rfl,rfl,rfl⟩,trivial⟩,trivial⟩⟩,⟨rfl,rfl⟩,trivial⟩,⟨rfl,rfl,⟨rfl,rfl,rfl⟩,⟨rfl,rfl,rfl⟩,⟨rfl,rfl,rfl⟩,rfl,trivial⟩⟩
  exact a8k (by rw [m2])
 intro k hk _
 refine N7 c8 ?_
 conv=>whnf
 repeat' (first|refine zz ?_|refine zd ?_ ?_<;>intro h<;>try omega|refine zy ?_|fail)<;>conv=>whnf
 ·obtain ⟨x,hx⟩:∃x,t.ev.moves[k]? =some x:=⟨_,lg0 (by omega)⟩
  have hlt:k<t.ev.moves.length:=by omega
  have hmo:=B3 q1 (lg2 hx)
  have ms:=O4 hmo
  obtain ⟨s,hsn⟩:∃s:Nat,x.src=s:=⟨x.src.toNat,by omega⟩
  obtain ⟨pl,hpl⟩:∃pl,t.ev.places[s]? =some pl:=⟨_,lg0 (by omega)⟩
  have hkd:m9 t.ev x.src=pl.kind:=by rw [hsn];exact ag3 hpl
  have st:=b3a t.ev q1 hx
  have iv:=ax8 t.ev hs.ev hx
  have rl0:=a8J (t:=t) (kind:=kind) (k:=k) (by omega) q2 q3
  obtain ⟨lo,hlo⟩:=b6i (C3 t.ev x)
  rw [hlo] at iv
  have i0:=a2b 0 (by decide) (by decide)
  have hcr:L4 (C3 t.ev x) k=if (C3 t.ev x).isSome then [n6 k 1 (hiR (C3 t.ev x))] else []:=by cases C3 t.ev x<;>rfl
  obtain ⟨R1,hR1⟩:∃R1:List B1,R1=n8 t kind k++(if pl.kind=0 then [] else [s9 t.ev k x]):=⟨_,rfl⟩
  obtain ⟨R2,hR2⟩:∃R2:List B1,R2=R1++L4 (C3 t.ev x) k:=⟨_,rfl⟩
  have l1:R1.length<=14401:=by rw [hR1];split<;>simp<;>omega
  have l2:R2.length<=14402:=by rw [hR2,hcr];split<;>simp<;>omega
  refine a9v (a9r ?_)
  refine a1F c8 (rEv t kind k) (rHp t R1) ?_ ?_
  ·have lA:(n8 t kind k).length<=(J2 (n8 t kind k)).rows.length:=by show _<=(toC _).length;simp [toC]
   have lC:((n8 t kind k).length+1)*97<=140737488355328:=by omega
   conv=>whnf
   repeat' (first|refine zz ?_|refine qp st ?_|refine b8 hx ?_|refine E6 hsn hpl ?_|refine o7 lA lC ?_|refine zd ?_ ?_<;>intro h<;>try omega|refine zy ?_|fail)<;>conv=>whnf
   ·have eR:R1=n8 t kind k++[s9 t.ev k x]:=by rw [hR1,if_neg (by assumption)]
    refine ⟨[some 0,some 1,some 2,some 4],M4 rfl Z8 rfl rfl rfl ?_ ?_ (by decide) ⟨rfl,rfl,⟨rfl,rfl,rfl⟩,⟨rfl,rfl,rfl⟩,⟨rfl,rfl,rfl⟩,rfl,trivial⟩⟩
    ·rw [eR];simp [toC]
    ·rw [eR];exact a0F rfl
   ·have eR:R1=n8 t kind k:=by rw [hR1,if_pos (by omega),List.append_nil]
    refine ⟨[some 0,some 1,some 2,some 3],M4 rfl Z8 rfl rfl rfl ?_ ?_ (by decide) ⟨rfl,rfl,⟨rfl,rfl,rfl⟩,⟨rfl,rfl,rfl⟩,⟨rfl,rfl,rfl⟩,rfl,trivial⟩⟩
    ·rw [eR]
    ·rw [eR]
  have o1:=fun h=>b52 (i:=k) (kind:=1) (f:=hiF (C3 t.ev x)) (v:=hiR (C3 t.ev x)) h
  refine a1F c8 ([J,a7 .i64 kind,S.c (C.t (T.ptr (trT t))),J,S.c (C.ptr 0 0 0),J,S.c (C.ptr 1 0 0),S.c (C.ptr 2 0 0),a7 .i64 k,J,S.c (C.ptr 4 0 0),f5 (C3 t.ev x).isSome,J,J,J,J,J,J,J,J,J,J,J,J,J,J,J,J,J,J,J,J,J,J,J,J,J,J,J,J,J,J,J,J,J,J,J,J,J,J,J,J,J,J,J,J,J,J,J,J,J,J,J,J,J,J,J,J,J,J,J,J,J,J,J,J,J,J,J,J,J,J,J,J,J,J,J,J,J,J,J,J,J,J,J,J,J,J,J,J,J,J,J,J,J,J,J,J,J,J,J,J,J,J,J,J,J,J,J,J,J,J,J,J,J,J,J,J,J,J,J,J,J,J,J,J,J,J,J,J,J]) (rHp t R1++[b9z (hiF (C3 t.ev x))]) ?_ ?_
  ·conv=>whnf
   repeat' (first|refine zz ?_|refine qp iv ?_|refine qp 6 ?_|refine bl0 [6] ?_|refine zd ?_ ?_<;>intro h<;>try omega|refine zy ?_|fail)<;>conv=>whnf
   all_goals
    refine ⟨[some 0,some 1,some 2,some 3,some 5],rfl,rfl,⟨Z8,⟨rfl,rfl,rfl,.inl ⟨rfl,j4 _⟩⟩,⟨rfl,rfl,rfl,.inr ⟨⟨rfl,⟨rfl,rfl,rfl,fun h=>h⟩,trivial⟩,trivial⟩⟩,⟨rfl,rfl,rfl,.inl ⟨rfl,c7 _⟩⟩,⟨rfl,rfl,rfl,.inl ⟨rfl,aQ1 _⟩⟩,trivial⟩,⟨rfl,rfl,⟨rfl,rfl,rfl⟩,⟨rfl,rfl,rfl⟩,⟨rfl,rfl,rfl⟩,rfl,⟨rfl,rfl,rfl⟩,b0g h.symm,trivial⟩⟩
  refine a1F c8 (rEv t kind k) (rHp t R2) ?_ ?_
  ·have lA:R1.length<=(J2 R1).rows.length:=by show _<=(toC _).length;simp [toC]
   have lC:(R1.length+1)*97<=140737488355328:=by omega
   cases hc:(C3 t.ev x).isSome with
   |true=>
    have o1:=o1 (a5R hc).1
    have eR:R2=R1++[n6 k 1 (hiR (C3 t.ev x))]:=by rw [hR2,hcr,hc];rfl
    conv=>whnf
    repeat' (first|refine zz ?_|refine qp o1 ?_|refine o7 lA lC ?_|refine zd ?_ ?_<;>intro h<;>try omega|refine zy ?_|fail)<;>conv=>whnf
    all_goals try (rw [hc] at h;exact absurd h (by decide))
    refine ⟨[some 0,some 1,some 2,some 5],M4 rfl Z8 rfl rfl rfl ?_ ?_ (by decide) ⟨rfl,rfl,⟨rfl,rfl,rfl⟩,⟨rfl,rfl,rfl⟩,⟨rfl,rfl,rfl⟩,rfl,trivial⟩⟩
    ·rw [eR];simp [toC]
    ·rw [eR];exact a0F rfl
   |false=>
    have eR:R2=R1:=by rw [hR2,hcr,hc];simp
    conv=>whnf
    repeat' (first|refine zz ?_|refine zd ?_ ?_<;>intro h<;>try omega|refine zy ?_|fail)<;>conv=>whnf
    all_goals try (rw [hc] at h;exact absurd h (by decide))
    refine ⟨[some 0,some 1,some 2,some 3],M4 rfl Z8 rfl rfl rfl ?_ ?_ (by decide) ⟨rfl,rfl,⟨rfl,rfl,rfl⟩,⟨rfl,rfl,rfl⟩,⟨rfl,rfl,rfl⟩,rfl,trivial⟩⟩
    ·rw [eR]
    ·rw [eR]
  obtain ⟨G,hG⟩:∃G:Nat->List B1,∀j,G j=R2++(g7 (t.finds.take j) kind k).map (fun g:Int=>n6 k 0 (g:Rat)):=⟨_,fun _=>rfl⟩
  have lG:∀j,(G j).length<=14500:=fun j=>by
   have h1:(g7 (t.finds.take j) kind k).length<=20:=by
    unfold g7;rw [List.length_map]
    exact Nat.le_trans (List.length_filter_le _ _) (by rw [List.length_take];omega)
   rw [hG];simp;omega
  refine a1F c8 (rEv t kind k) (rHp t (G t.finds.length)) ?_ ?_
  ·conv=>whnf
   repeat' (first|refine zz ?_|refine zd ?_ ?_<;>intro h<;>try omega|refine zy ?_|fail)<;>conv=>whnf
   refine d6 c8 (fun j=>([J,a7 .i64 kind,S.c (C.t (T.ptr (trT t))),J,S.c (C.ptr 0 0 0),J,S.c (C.ptr 1 0 0),S.c (C.ptr 2 0 0),a7 .i64 k,J,J,J,a7 .i64 j,J,J,J,J,J,J,J,J,J,J,J,J,J,J,J,J,J,J,J,J,J,J,J,J,J,J,J,J,J,J,J,J,J,J,J,J,J,J,J,J,J,J,J,J,J,J,J,J,J,J,J,J,J,J,J,J,J,J,J,J,J,J,J,J,J,J,J,J,J,J,J,J,J,J,J,J,J,J,J,J,J,J,J,J,J,J,J,J,J,J,J,J,J,J,J,J,J,J,J,J,J,J,J,J,J,J,J,J,J,J,J,J,J,J,J,J,J,J,J,J,J,J,J,J,J,J,J,J],rHp t (G j))) t.finds.length (fun _=>True) [some 0,some 1,some 2,some 3] trivial ?_ ?_
   ·refine M4 rfl Z8 rfl rfl rfl ?_ ?_ (by decide) ⟨rfl,rfl,⟨rfl,rfl,rfl⟩,⟨rfl,rfl,rfl⟩,⟨rfl,rfl,rfl⟩,rfl,rfl,trivial⟩
    ·rw [hG];simp [g7]
    ·rw [hG];simp [g7]
   intro j hj _
   have lj:=lG j
   by_cases hjt:j<t.finds.length
   ·obtain ⟨f,hf⟩:∃f,t.finds[j]? =some f:=⟨_,lg0 hjt⟩
    have fb:=A0 q4 f (lg2 hf)
    have ig:=a2b f.grams (by omega) (by omega)
    have o0:=aK2 k 0 (f.grams:Rat)
    have lA:(G j).length<=(J2 (G j)).rows.length:=by show _<=(toC _).length;simp [toC]
    have lC:((G j).length+1)*97<=140737488355328:=by omega
    have gs:G (j+1)=if f.kind=kind∧f.mv=(k:Int) then G j++[n6 k 0 (f.grams:Rat)] else G j:=by
     rw [hG,hG,a2z hf,a60]
     split<;>simp
    conv=>whnf
    repeat' (first|refine zz ?_|refine qp ig ?_|refine qp o0 ?_|refine b8 hf ?_|refine o7 lA lC ?_|refine zd ?_ ?_<;>intro h<;>try omega|refine zy ?_|fail)<;>conv=>whnf
    all_goals first
     |omega
     |skip
    ·rw [if_pos (by omega)] at gs
     refine ⟨hjt,trivial,[some 0,some 1,some 2,some 4],M4 rfl Z8 rfl rfl rfl ?_ ?_ (by decide) ⟨rfl,rfl,⟨rfl,rfl,rfl⟩,⟨rfl,rfl,rfl⟩,⟨rfl,rfl,rfl⟩,rfl,rfl,trivial⟩⟩
     ·rw [gs];simp [toC]
     ·rw [gs];exact a0F rfl
    all_goals
     rw [if_neg (by omega)] at gs
     refine ⟨hjt,trivial,[some 0,some 1,some 2,some 3],M4 rfl Z8 rfl rfl rfl ?_ ?_ (by decide) ⟨rfl,rfl,⟨rfl,rfl,rfl⟩,⟨rfl,rfl,rfl⟩,⟨rfl,rfl,rfl⟩,rfl,rfl,trivial⟩⟩
     ·rw [gs]
     ·rw [gs]
   ·have hje:j=t.finds.length:=by omega
    subst hje
    conv=>whnf
    repeat' (first|refine zz ?_|refine zd ?_ ?_<;>intro h<;>try omega|refine zy ?_|fail)<;>conv=>whnf
    all_goals first
     |omega
     |exact ⟨[some 0,some 1,some 2,some 3],M4 rfl Z8 rfl rfl rfl rfl rfl (by decide) ⟨rfl,rfl,⟨rfl,rfl,rfl⟩,⟨rfl,rfl,rfl⟩,⟨rfl,rfl,rfl⟩,rfl,trivial⟩⟩
  have lGe:=lG t.finds.length
  obtain ⟨K,hK⟩:∃K:Nat->List B1,∀j,K j=G t.finds.length++List.replicate (j1 (t.cleans.take j) kind k) (n6 k 2 ((0:Int):Rat)):=⟨_,fun _=>rfl⟩
  have lK:∀j,(K j).length<=14600:=fun j=>by
   have h1:j1 (t.cleans.take j) kind k<=50:=by
    unfold j1
    exact Nat.le_trans (List.length_filter_le _ _) (by rw [List.length_take];omega)
   rw [hK];simp;omega
  have hKe:K t.cleans.length=n8 t kind (k+1):=by
   rw [hK,hG,hR2,hR1,lg4 (Nat.le_refl _),lg4 (Nat.le_refl _)]
   show _=(match t.ev.moves[k]? with|none=>n8 t kind k|some x=>n8 t kind k++K5 t kind k x)
   rw [hx]
   simp only [K5,hkd,List.append_assoc]
  refine w8 c8 _ ?_
  conv=>whnf
  repeat' (first|refine zz ?_|refine zd ?_ ?_<;>intro h<;>try omega|refine zy ?_|fail)<;>conv=>whnf
  refine d6 c8 (fun j=>([J,a7 .i64 kind,S.c (C.t (T.ptr (trT t))),J,S.c (C.ptr 0 0 0),J,S.c (C.ptr 1 0 0),S.c (C.ptr 2 0 0),a7 .i64 k,J,J,J,J,a7 .i64 j,J,J,J,J,J,J,J,J,J,J,J,J,J,J,J,J,J,J,J,J,J,J,J,J,J,J,J,J,J,J,J,J,J,J,J,J,J,J,J,J,J,J,J,J,J,J,J,J,J,J,J,J,J,J,J,J,J,J,J,J,J,J,J,J,J,J,J,J,J,J,J,J,J,J,J,J,J,J,J,J,J,J,J,J,J,J,J,J,J,J,J,J,J,J,J,J,J,J,J,J,J,J,J,J,J,J,J,J,J,J,J,J,J,J,J,J,J,J,J,J,J,J,J,J,J,J,J],rHp t (K j))) t.cleans.length (fun _=>True) [some 0,some 1,some 2,some 3] trivial ?_ ?_
  ·refine M4 rfl Z8 rfl rfl rfl ?_ ?_ (by decide) ⟨rfl,rfl,⟨rfl,rfl,rfl⟩,⟨rfl,rfl,rfl⟩,⟨rfl,rfl,rfl⟩,rfl,rfl,trivial⟩
   ·rw [hK];simp [j1]
   ·rw [hK];simp [j1]
  intro j hj _
  have lj:=lK j
  by_cases hjt:j<t.cleans.length
  ·obtain ⟨c,hc⟩:∃c,t.cleans[j]? =some c:=⟨_,lg0 hjt⟩
   have o0:=aK2 k 2 ((0:Int):Rat)
   have lA:(K j).length<=(J2 (K j)).rows.length:=by show _<=(toC _).length;simp [toC]
   have lC:((K j).length+1)*97<=140737488355328:=by omega
   have gs:K (j+1)=if c.kind=kind∧c.mv=(k:Int) then K j++[n6 k 2 ((0:Int):Rat)] else K j:=by
    rw [hK,hK,a2z hc,a07]
    split<;>simp [List.replicate_succ']
   conv=>whnf
   repeat' (first|refine zz ?_|refine qp i0 ?_|refine qp o0 ?_|refine b8 hc ?_|refine o7 lA lC ?_|refine zd ?_ ?_<;>intro h<;>try omega|refine zy ?_|fail)<;>conv=>whnf
   all_goals first
    |omega
    |skip
   ·rw [if_pos (by omega)] at gs
    refine ⟨hjt,trivial,[some 0,some 1,some 2,some 4],M4 rfl Z8 rfl rfl rfl ?_ ?_ (by decide) ⟨rfl,rfl,⟨rfl,rfl,rfl⟩,⟨rfl,rfl,rfl⟩,⟨rfl,rfl,rfl⟩,rfl,rfl,trivial⟩⟩
    ·rw [gs];simp [toC]
    ·rw [gs];exact a0F rfl
   all_goals
    rw [if_neg (by omega)] at gs
    refine ⟨hjt,trivial,[some 0,some 1,some 2,some 3],M4 rfl Z8 rfl rfl rfl ?_ ?_ (by decide) ⟨rfl,rfl,⟨rfl,rfl,rfl⟩,⟨rfl,rfl,rfl⟩,⟨rfl,rfl,rfl⟩,rfl,rfl,trivial⟩⟩
    ·rw [gs]
    ·rw [gs]
  ·have hje:j=t.cleans.length:=by omega
   subst hje
   conv=>whnf
   repeat' (first|refine zz ?_|refine zd ?_ ?_<;>intro h<;>try omega|refine zy ?_|fail)<;>conv=>whnf
   all_goals try omega
   refine w8 c8 _ ?_
   conv=>whnf
   repeat' (first|refine zz ?_|refine zd ?_ ?_<;>intro h<;>try omega|refine zy ?_|fail)<;>conv=>whnf
   all_goals try omega
   exact ⟨hlt,trivial,[some 0,some 1,some 2,some 3],M4 rfl Z8 rfl rfl rfl (by rw [hKe]) (by rw [hKe]) (by decide) ⟨rfl,rfl,⟨rfl,rfl,rfl⟩,⟨rfl,rfl,rfl⟩,⟨rfl,rfl,rfl⟩,rfl,trivial⟩⟩
 ·have hke:k=t.ev.moves.length:=by omega
  subst hke
  exact ⟨⟨[some 3],rfl,rfl,⟨a8 (rows:=(N6 t kind).rows.map w5) rfl rfl rfl rfl rfl,trivial⟩,⟨⟨rfl,⟨rfl,rfl,rfl,fun h=>h⟩,trivial⟩,rfl,trivial⟩⟩⟩
def aK4 (s:f7) (g:List (Int × Rat)):f7:=⟨s.n,s.rows++[⟨g,2,((0:Int):Rat)⟩]⟩
theorem aB8 {s:f7} {g:List (Int × Rat)} (hr:i8 s=true) (hl:s.rows.length<6000) (hg:f8 (-1) s.n g=true):i8 (aK4 s g)=true:=by
 unfold i8 at hr ⊢
 simp only [Bool.and_eq_true,decide_eq_true_eq] at hr ⊢
 refine ⟨⟨hr.1.1,by simp [aK4];omega⟩,?_⟩
 show (s.rows++[_]).all (t9 s.n)=true
 rw [List.all_append,hr.2]
 simp [t9,hg]
theorem a2h {s:f7} {g:List (Int × Rat)} (z:List Rat):∀l:List (Int × Rat),k7 (N9 l) z=-(k7 l z):=by
 intro l
 have key:∀k,k<=l.length->k7 ((N9 l).take k) z=-(k7 (l.take k) z):=by
  intro k
  induction k with
  |zero=>intro _;rw [List.take_zero,List.take_zero];show (0:Rat)=-0;grind
  |succ k ih=>
   intro hk
   have ih:=ih (by omega)
   have ht:l[k]? =some l[k]:=lg0 (by omega)
   rw [show (N9 l).take (k+1)=_ from a7L l _ ht,P9,List.take_succ_eq_append_getElem (show k<l.length by omega),P9,show (V9 l ((-1:Int):Rat)).take k=(N9 l).take k from rfl,ih]
   have e1:((-1:Int):Rat)=-1:=rfl
   rw [e1];simp only;grind
 have:=key l.length (Nat.le_refl _)
 rwa [lg4 (by rw [b5O];exact Nat.le_refl _),lg4 (Nat.le_refl _)] at this
theorem b2I {s:f7} {Y:List Rat} (h:aB7 s (yN Y)) (hl:Y.length=s.rows.length):a3e s Y=true:=by
 unfold a3e
 rw [decide_eq_true hl,Bool.true_and,List.all_eq_true]
 intro i hi
 rw [List.mem_range] at hi
 have hx:s.rows[i]? =some s.rows[i]:=lg0 hi
 obtain ⟨h1,h2⟩:=h i _ hx
 unfold sgB
 rw [L3 hx]
 simp only [Bool.not_eq_true',Bool.or_eq_false_iff,Bool.and_eq_false_iff,decide_eq_false_iff_not]
 refine ⟨?_,?_⟩
 ·by_cases h:s.rows[i].kind=0
  ·exact .inr (Rat.not_lt.2 (h1 h))
  ·exact .inl h
 ·by_cases h:s.rows[i].kind=1
  ·exact .inr (Rat.not_lt.2 (h2 h))
  ·exact .inl h
theorem b6l {s:f7} {g:List (Int × Rat)} {Y:List Rat} {y:Nat->Rat} {v:Rat} (hr:i8 s=true) (hg:f8 (-1) ((s.n.toNat:Nat):Int) g=true) (h:b5I s (v7 g) y v) (hl:Y.length=s.rows.length) (hY:∀i,i<s.rows.length->yN Y i=y i):a33 s g Y=true∧a2j s (yN Y)=v:=by
 have hn:=a0h hr
 have e1:∀l,O0 s (yN Y) l=O0 s y l:=fun l=>f6 fun i hi=>by rw [hY i hi]
 have e2:a2j s (yN Y)=a2j s y:=f6 fun i hi=>by rw [hY i hi]
 refine ⟨?_,by rw [e2,h.val]⟩
 unfold a33
 rw [b2I (fun i w hw=>by rw [hY i (lg1 hw).1];exact h.sign i w hw) hl,←hn,hg,Bool.true_and,Bool.true_and,List.all_eq_true]
 intro l hl
 rw [List.mem_range] at hl
 have hl:l<s.n.toNat:=by omega
 rw [e1]
 exact decide_eq_true (h.mix l hl)
theorem b4s {n:Nat} {y:Nat->Rat} {i:Nat} (h:i<n):yN (zOf n y) i=y i:=a62 h
def a9F (D:Fd):Fd:={ D with V:=fun _=>0 }
theorem a7v {m n:Nat} {D:Fd} {y:Nat->Rat} {c:Rat}:Ids m n (a9F D) y c↔Ids m n D y 0:=by
 constructor
 ·intro h i hi
  have h1:y (D.O i)=c*0 - f9 (fun j=>D.A i j*y (D.F j)) n:=h i hi
  show y (D.O i)=0*D.V i - f9 (fun j=>D.A i j*y (D.F j)) n
  rw [h1];grind
 ·intro h i hi
  have h1:y (D.O i)=0*D.V i - f9 (fun j=>D.A i j*y (D.F j)) n:=h i hi
  show y (D.O i)=c*0 - f9 (fun j=>D.A i j*y (D.F j)) n
  rw [h1];grind
theorem aM4 {m n:Nat} {D:Fd} (h:X8 m n D):X8 m n (a9F D):=⟨h.oi,h.fi,h.of,h.all,h.ob,h.fb⟩
theorem az9 {s:f7} {g:List (Int × Rat)} {B:Nat} (hI:∀w ∈ s.rows,a9J B w):aM0 (e8 s).length s.n.toNat 1 (a9F (g4 s g)) where
 o:=fun i _=>rfl
 f:=fun j _=>rfl
 w:=fun i hi=>by
  obtain ⟨f,hf⟩:∃f,(e8 s)[i]? =some f:=⟨_,lg0 hi⟩
  obtain ⟨x,hx,_⟩:=T8.1 (lg2 hf)
  obtain ⟨h1,h2⟩:=hI x (lg2 hx)
  have hfd:(e8 s).getD i (0,false)=f:=by rw [lg3,hf];rfl
  have eA:∀j,(g4 s g).A i j=Q8 f.2 (v7 x.terms j):=fun j=>by show a1x s ((e8 s).getD i (0,false)) j=_;rw [hfd];unfold a1x;rw [hx]
  have hc:∀j,∃c:Int,(g4 s g).A i j=((c:Int):Rat)∧bl c<=1:=fun j=>by
   obtain ⟨c,hc,hb⟩:=a0N h1 x.terms.length j
   obtain ⟨c',hc',hb'⟩:=b4W (b:=f.2) (x:=v7 x.terms j) hc
   exact ⟨c',by rw [eA,hc'],by omega⟩
  refine ⟨1,0,fun j=>Classical.choose (hc j),by decide,o5 (by decide) (by decide),o5 (by decide) (by decide),fun j hj=>(Classical.choose_spec (hc j)).2,?_,fun j hj=>?_⟩
  ·have e0:((0:Int):Rat)=0:=rfl
   have e1:((1:Int):Rat)=1:=rfl
   show ((1:Int):Rat)*0=((0:Int):Rat)
   rw [e0,e1];grind
  ·show ((1:Int):Rat)*(g4 s g).A i j=((Classical.choose (hc j):Int):Rat)
   have hs:=(Classical.choose_spec (hc j)).1
   generalize Classical.choose (hc j)=x at hs
   rw [hs]
   have h1:((1:Int):Rat)=1:=rfl
   rw [h1];grind
theorem aW0 {s:f7} {g:List (Int × Rat)} {B:Nat} (hI:∀w ∈ s.rows,a9J B w) (hg:A8 g) {j:Nat} (hj:j<s.n.toNat):rl ((v8 s g).G j)<=2 ^ s.n.toNat*3:=by
 have inv:=P4 (s:=s) (g:=g)
 obtain ⟨z,hz⟩:=inv.g
 have hc:∀j,∃c:Int,v7 g j=((c:Int):Rat)∧bl c<=1:=fun j=>a0N hg g.length j
 have hz0:T3 s.n.toNat (a9F (v8 s g)) (fun j=>-(v7 g j)) (e8 s).length 0:=fun y c hy=>by
  have:=hz y 0 (a7v.1 hy)
  rw [this]
  show 0*z+_=c*0+_
  have e:f9 (fun j=>(a9F (v8 s g)).G j*y ((a9F (v8 s g)).F j)) s.n.toNat=f9 (fun j=>(v8 s g).G j*y ((v8 s g).F j)) s.n.toNat:=rfl
  rw [e];grind
 refine b5C (D:=a9F (v8 s g)) (az9 (g:=g) hI) (by decide) (aM4 inv.p) (fun y c=>by rw [a7v,a7v];exact inv.i y 0) hz0 (q:=1) (b:=fun l=>-(Classical.choose (hc l))) (by decide) (o5 (by decide) (by decide)) (fun l hl=>?_) (fun l hl=>?_) hj
 ·have:=(Classical.choose_spec (hc l)).2
  show bl (-(Classical.choose (hc l)))<=_
  rw [a8p];omega
 ·have hs:=(Classical.choose_spec (hc l)).1
  show ((1:Int):Rat)*-(v7 g l)=((-(Classical.choose (hc l)):Int):Rat)
  generalize Classical.choose (hc l)=x at hs ⊢
  rw [hs]
  have e:((-x:Int):Rat)=-((x:Int):Rat):=by push_cast;rfl
  rw [e]
  have h1:((1:Int):Rat)=1:=rfl
  rw [h1];grind
theorem aQ4 {f:Nat->Rat} {C:Nat}:∀n:Nat,(∀ j,j<n->rl (f j)<=C)->rl (f9 f n)<=n*(C+1)+1
 |0,_=>by have:=rl0;show rl 0<=_;omega
 |n+1,h=>by
  have ih:=aQ4 n fun j hj=>h j (by omega)
  have h1:=h n (by omega)
  have h2:=a3a (f9 f n) (f n)
  have e:(n+1)*(C+1)=n*(C+1)+(C+1):=by rw [Nat.add_mul,Nat.one_mul]
  show rl (f9 f n+f n)<=_
  omega
theorem b1d {k a:Nat} (v:Rat) (c:Nat->Rat):f9 (fun i=>(if a=i then v else 0)*c i) k=if a<k then v*c a else 0:=by
 by_cases h:a<k
 ·rw [if_pos h,a3P h]
 ·rw [if_neg h]
  exact s6 fun i hi=>by rw [if_neg (by omega)];grind
theorem b4c {s:f7} {w k:Nat} (p:Rat) (c:Nat->Rat) {P C:Nat} (hp:rl p<=P) (hc:∀i,rl (c i)<=C):rl (f9 (fun i=>chg s w p i*c i) k)<=P+C+1:=by
 by_cases h:s.n.toNat<=w
 ·rw [f6 (g:=fun i=>(if (z5 s (w - s.n.toNat)).1=i then -(Q8 (z5 s (w - s.n.toNat)).2 p) else 0)*c i) fun i hi=>by
   unfold chg
   by_cases h2:(z5 s (w - s.n.toNat)).1=i
   ·rw [if_pos ⟨h,h2⟩,if_pos h2]
   ·rw [if_neg (fun e=>h2 e.2),if_neg h2]]
  rw [b1d]
  split
  ·have h1:=a2Y (-(Q8 (z5 s (w - s.n.toNat)).2 p)) (c (z5 s (w - s.n.toNat)).1)
   have h2:=hc (z5 s (w - s.n.toNat)).1
   have h3:rl (-(Q8 (z5 s (w - s.n.toNat)).2 p))<=P:=by
    rw [O9]
    cases (z5 s (w - s.n.toNat)).2 with
    |false=>exact hp
    |true=>show rl (-p)<=P;rw [O9];exact hp
   omega
  ·have:=rl0;omega
 ·rw [s6 fun i hi=>by unfold chg;rw [if_neg (fun e=>h e.1)];grind]
  have:=rl0;omega
theorem ac8 {s:f7} {g:List (Int × Rat)} {B C:Nat} (hI:∀w ∈ s.rows,a9J B w) (hg:A8 g) (c:Nat->Rat) (hc:∀i,rl (c i)<=C) (k:Nat):
 rl (f9 (fun i=>N8 s (v8 s g) i*c i) k)<=s.n.toNat*(2 ^ s.n.toNat*3+C+2)+1:=by
 have e:f9 (fun i=>N8 s (v8 s g) i*c i) k=f9 (fun j=>f9 (fun i=>chg s ((v8 s g).F j) (-((v8 s g).G j)) i*c i) k) s.n.toNat:=a5K (s:=s)
 rw [e]
 exact aQ4 _ fun j hj=>b4c _ c (by rw [O9];exact aW0 hI hg hj) hc
theorem b4q {s:f7} {g:List (Int × Rat)} {B:Nat} (hI:∀w ∈ s.rows,a9J B w) (hg:A8 g) (i:Nat):rl (N8 s (v8 s g) i)<=s.n.toNat*(2 ^ s.n.toNat*3+1)+1:=by
 refine aQ4 _ fun j hj=>?_
 have h:=aW0 (g:=g) hI hg hj
 unfold chg
 split
 ·rw [O9]
  cases (z5 s ((v8 s g).F j - s.n.toNat)).2 with
  |false=>show rl (-((v8 s g).G j))<=_;rw [O9];exact h
  |true=>show rl (- -((v8 s g).G j))<=_;rw [O9,O9];exact h
 ·have:=rl0
  have h2:1<=2 ^ s.n.toNat:=Nat.one_le_two_pow
  omega
theorem b3G {l:List (Int × Rat)} (h:A8 l) (v:Nat):rl (v7 l v)<=1:=by
 obtain ⟨c,hc,hb⟩:=a0N h l.length v
 have e:v7 l v=((c:Int):Rat):=hc
 rw [e,a1c]
 have:=o5 (x:=1) (by decide) (by decide)
 omega
theorem aX2 {s:f7} {B:Nat} (hI:∀w ∈ s.rows,a9J B w) (hB:1<=B) (i:Nat):A8 (w6 s i).terms∧rl (w6 s i).value<=B:=by
 by_cases h:i<s.rows.length
 ·have hx:s.rows[i]? =some s.rows[i]:=lg0 h
  rw [L3 hx]
  exact hI _ (List.getElem_mem _)
 ·have e:w6 s i=⟨[],2,0⟩:=by unfold w6;rw [lg3,List.getElem?_eq_none (by omega)];rfl
  rw [e]
  exact ⟨fun (t:Int × Rat) (ht:t ∈ [])=>by simp at ht,by have:=rl0;show rl 0<=B;omega⟩
theorem b2o {s:f7} {g:List (Int × Rat)} (c:Nat->Rat) (k:Nat):f9 (fun i=>yN (zOf s.rows.length (N8 s (v8 s g))) i*c i) k=f9 (fun i=>N8 s (v8 s g) i*(if i<s.rows.length then c i else 0)) k:=f6 fun i hi=>by
 by_cases h:i<s.rows.length
 ·rw [b4s h,if_pos h]
 ·have:yN (zOf s.rows.length (N8 s (v8 s g))) i=0:=by unfold yN;rw [lg3,List.getElem?_eq_none (by rw [Q0];omega)];rfl
  rw [this,if_neg h];grind
theorem a8H:∀n,n<9->n*(2 ^ n*3+11+2)+1<=40000∧n*(2 ^ n*3+1)+1<=40000∧n*(2 ^ n*3+1+2)+1<=40000:=by decide
theorem b7B {s:f7} {g:List (Int × Rat)} (hI:∀w ∈ s.rows,a9J 11 w) (hg:A8 g) (hn:s.n.toNat<=8) (l k:Nat):rl (a4Z s (yN (zOf s.rows.length (N8 s (v8 s g)))) l k)<=40000:=by
 obtain ⟨p1,p2,p3⟩:=a8H s.n.toNat (by omega)
 unfold a4Z
 rw [b2o]
 have:=ac8 hI hg (C:=1) (fun i=>if i<s.rows.length then v7 (w6 s i).terms l else 0) (fun i=>by
  split
  ·exact b3G (aX2 hI (by decide) i).1 l
  ·exact rl0) k
 omega
theorem b7T {s:f7} {g:List (Int × Rat)} (hI:∀w ∈ s.rows,a9J 11 w) (hg:A8 g) (hn:s.n.toNat<=8) (k:Nat):rl (a4T s (yN (zOf s.rows.length (N8 s (v8 s g)))) k)<=40000:=by
 obtain ⟨p1,p2,p3⟩:=a8H s.n.toNat (by omega)
 unfold a4T
 rw [b2o]
 have:=ac8 hI hg (C:=11) (fun i=>if i<s.rows.length then (w6 s i).value else 0) (fun i=>by
  split
  ·exact (aX2 hI (by decide) i).2
  ·have:=rl0;omega) k
 omega
theorem b32 {s:f7} {g:List (Int × Rat)} (hI:∀w ∈ s.rows,a9J 11 w) (hg:A8 g) (hn:s.n.toNat<=8):∀v ∈ zOf s.rows.length (N8 s (v8 s g)),rl v<=40000:=by
 intro v hv
 obtain ⟨p1,p2,p3⟩:=a8H s.n.toNat (by omega)
 obtain ⟨j,hj,rfl⟩:=a4w hv
 have:=b4q hI hg j
 omega
theorem b0H {s:f7} {g:List (Int × Rat)} (hI:∀w ∈ s.rows,a9J 11 w) (hg:A8 g) (hn:s.n.toNat<=8) (hm:s.rows.length<=1000000):b20 s (zOf s.rows.length (N8 s (v8 s g))):=
 ⟨b32 hI hg hn,fun l k=>Nat.le_trans (b7B hI hg hn l k) (by decide),fun k=>Nat.le_trans (b7T hI hg hn k) (by decide),Q0,hm⟩
theorem b8K:rl ((-1:Int):Rat)<=1:=by rw [a1c];exact o5 (x:=-1) (by decide) (by decide)
theorem b6Q {s:f7} {x:List Rat} {B:Nat} (hr:i8 s=true) (hI:∀w ∈ s.rows,a9J 11 w) (hB:B<=40000) (hn:s.n.toNat*(B+4)+1<=50000) (hl:x.length<=1000000) (hx:∀v ∈ x,rl v<=B):PtB s x:=by
 refine ⟨fun v hv=>Nat.le_trans (hx v hv) hB,fun w hw k=>?_,hl⟩
 obtain ⟨i,hi,rfl⟩:=List.getElem_of_mem hw
 have hrt:=(W4 hr (lg0 hi)).1
 have h1:=a6F (M6 (hI _ hw).1) hx k
 have h2:=A7 hrt
 have h3:s.rows[i].terms.length<=s.n.toNat:=by omega
 have h4:=Nat.mul_le_mul_right (B+4) h3
 omega
def a4o (e:Ev) (m k:Int):Bool:=decide (e.mats<=k) && decide (e.hhs<=6) && decide (e.scs<=6) && decide (e.places.length<=12) && decide ((e.moves.length:Int)<=m) && decide (e.certs.length<=10) && decide (e.recalls.length<=4) && decide (e.purities.length<=6)
theorem b3L (e:Ev) (m k:Int):a9 Tryz.prog 57 [evS e,a7 .i64 m,a7 .i64 k] [] (f5 (a4o e m k)) []:=by
 have m1:(e.places.map C8.row).length=e.places.length:=by simp
 have m2:(e.moves.map p6.row).length=e.moves.length:=by simp
 have m3:(e.certs.map G5.row).length=e.certs.length:=by simp
 have m4:(e.recalls.map z4.row).length=e.recalls.length:=by simp
 have m5:(e.purities.map a0p.row).length=e.purities.length:=by simp
 (refine ac Tryz.func57 ?_;(conv=>whnf);repeat ((first|refine b0x ?_|refine zy ?_);conv=>whnf))
 repeat' (first|refine zz ?_|refine zd ?_ ?_<;>intro h<;>try omega|refine zy ?_|fail)<;>conv=>whnf
 all_goals
  refine b9 ?_
  unfold a4o
  simp only [m1,m2,m3,m4,m5] at *
  first
   |(symm;simp only [Bool.and_eq_true,decide_eq_true_eq];omega)
   |(symm;rw [← Bool.not_eq_true];simp only [Bool.and_eq_true,decide_eq_true_eq];omega)
def a2s (t:e7) (m:Int):Bool:=a4o t.ev m 3 && decide (t.ev.hhs<=4) && decide (t.finds.length<=6) && decide (t.cleans.length<=6)
theorem b36 (t:e7) (m:Int):a9 Tryz.prog 15 [trS t,a7 .i64 m] [] (f5 (a2s t m)) []:=by
 have r:=b3L t.ev m 3
 have m1:(t.finds.map L7.row).length=t.finds.length:=by simp
 have m2:(t.cleans.map Q6.row).length=t.cleans.length:=by simp
 unfold a2s
 cases hq:a4o t.ev m 3<;>rw [hq] at r<;>
 ·(refine ac Tryz.func15 ?_;(conv=>whnf);repeat ((first|refine b0x ?_|refine zy ?_);conv=>whnf))
  repeat' (first|refine zz ?_|refine qp r ?_|refine zd ?_ ?_<;>intro h<;>try omega|refine zy ?_|fail)<;>conv=>whnf
  all_goals
   refine b9 ?_
   simp only [m1,m2] at *
   first
    |rfl
    |(symm;simp only [Bool.true_and,Bool.and_eq_true,decide_eq_true_eq];omega)
    |(symm;rw [← Bool.not_eq_true];simp only [Bool.and_eq_true,decide_eq_true_eq];omega)
theorem a4V {t:e7} {m:Int} (hm:m<=100) (h:a2s t m=true):t.Sized∧(t.ev.moves.length:Int)<=m∧t.ev.hhs<=4:=by
 unfold a2s a4o at h
 simp only [Bool.and_eq_true,decide_eq_true_eq] at h
 exact ⟨⟨⟨by omega,by omega,by omega,by omega,by omega⟩,by omega,by omega⟩,by omega,by omega⟩
def a8S (z:List Fr) (n:Nat) (d:Int):Bool:=(z.take (n+1)).all (aN5 d) && decide (z.length<=n)
theorem aQ8 (z:List Fr) (n:Nat) (d:Int) (hn:n<=1000):a9 Tryz.prog 19 [j8 z,a7 .i64 n,a7 .i64 d] [] (f5 (a8S z n d)) []:=by
 have m1:(z.map j5).length=z.length:=by simp
 (refine ac Tryz.func19 ?_;(conv=>whnf);repeat ((first|refine b0x ?_|refine zy ?_);conv=>whnf))
 repeat' (first|refine zz ?_|refine zd ?_ ?_<;>intro h<;>try omega|refine zy ?_|fail)<;>conv=>whnf
 refine d6 c8 (fun k=>([j8 z,a7 .i64 n,a7 .i64 d,J,J,J,J,a7 .i64 k,J,J,J,J,J,J,J,J,J,J,J,J,J,J,J,J,J,J,J,J,J,J],[])) (n+1) (fun k=>k<=z.length∧(z.take k).all (aN5 d)=true) [] ⟨Nat.zero_le _,rfl⟩
  ⟨rfl,rfl,trivial,⟨rfl,rfl,rfl,rfl,trivial⟩⟩ ?_
 rintro k hk ⟨hle,hI⟩
 by_cases hlt:k<z.length∧k<n+1
 ·obtain ⟨f,hf⟩:∃f,z[k]? =some f:=⟨_,lg0 hlt.1⟩
  have hf2:(z.take (n+1))[k]? =some f:=by rw [List.getElem?_take,if_pos hlt.2];exact hf
  have r:=b74 f d
  cases hff:aN5 d f with
  |true=>
   rw [hff] at r
   conv=>whnf
   repeat' (first|refine zz ?_|refine qp r ?_|refine b8 hf ?_|refine zd ?_ ?_<;>intro h<;>try omega|refine zy ?_|fail)<;>conv=>whnf
   all_goals first
    |omega
    |exact ⟨hlt.2,⟨by omega,by rw [p7 hf,hI,hff];rfl⟩,[],rfl,rfl,trivial,⟨rfl,rfl,rfl,rfl,trivial⟩⟩
  |false=>
   rw [hff] at r
   have e1:a8S z n d=false:=by unfold a8S;rw [u9 hf2 hff];rfl
   rw [e1]
   conv=>whnf
   repeat' (first|refine zz ?_|refine qp r ?_|refine b8 hf ?_|refine zd ?_ ?_<;>intro h<;>try omega|refine zy ?_|fail)<;>conv=>whnf
   all_goals first
    |omega
    |exact b9 rfl
 ·have hk2:z.length=k∨k=n+1:=by omega
  have hall:(z.take (n+1)).all (aN5 d)=true:=by
   rcases hk2 with h|h
   ·have e:z.take (n+1)=z.take k:=by rw [lg4 (by omega),lg4 (by omega)]
    rw [e];exact hI
   ·rw [← h];exact hI
  conv=>whnf
  repeat' (first|refine zz ?_|refine zd ?_ ?_<;>intro h<;>try omega|refine zy ?_|fail)<;>conv=>whnf
  all_goals first
   |omega
   |(refine b9 ?_;unfold a8S;rw [hall];simp;omega)
theorem ax2 {z:List Fr} {n:Nat} {d:Int} (h:a8S z n d=true):z.length<=n∧∀f ∈ z,(f.p.dl.length:Int)<=d∧(f.q.dl.length:Int)<=d:=by
 unfold a8S at h
 simp only [Bool.and_eq_true,decide_eq_true_eq] at h
 obtain ⟨h1,h2⟩:=h
 rw [lg4 (by omega),List.all_eq_true] at h1
 refine ⟨h2,fun f hf=>?_⟩
 have:=h1 f hf
 unfold aN5 at this
 simp only [Bool.and_eq_true,decide_eq_true_eq] at this
 exact this
theorem aW4 {f:Nat->Rat}:∀{n:Nat},0<f9 f n->∃j,j<n∧0<f j
 |0,h=>absurd (show (0:Rat)<0 from h) (by decide +kernel)
 |n+1,h=>by
  simp only [f9] at h
  by_cases h1:0<f n
  ·exact ⟨n,by omega,h1⟩
  ·obtain ⟨j,hj,hp⟩:=aW4 (f:=f) (n:=n) (by grind)
   exact ⟨j,by omega,hp⟩
def cnt (p:Nat->Bool):Nat->Nat
 |0=>0
 |k+1=>cnt p k+if p k then 1 else 0
def v6:List (Int × Rat)->List (Int × Rat)->List (Int × Rat)
 |[],b=>b
 |t::r,[]=>t::r
 |t::r,u::q=>if t.1<u.1 then t::v6 r (u::q) else if u.1<t.1 then u::v6 (t::r) q else if t.2+u.2=0 then v6 r q else (t.1,t.2+u.2)::v6 r q
termination_by a b=>a.length+b.length
theorem T4 {last n:Int} {t:Int × Rat} {r:List (Int × Rat)} (h1:last<t.1) (h2:t.1<n) (h3:t.2≠0) (h4:f8 t.1 n r=true):f8 last n (t::r)=true:=by
 unfold f8
 simp only [Bool.and_eq_true,decide_eq_true_eq]
 exact ⟨⟨⟨h1,h2⟩,h3⟩,h4⟩
theorem a9B {n:Int}:∀(k:Nat) {last:Int} {a b:List (Int × Rat)},a.length+b.length<=k->-1<=last->f8 last n a=true->f8 last n b=true->
 f8 last n (v6 a b)=true∧∀v,v7 (v6 a b) v=v7 a v+v7 b v:=by
 intro k
 induction k with
 |zero=>
  intro last a b hk h0 ha hb
  have:a=[]:=List.length_eq_zero_iff.1 (by omega)
  have:b=[]:=List.length_eq_zero_iff.1 (by omega)
  subst a b
  rw [v6]
  exact ⟨rfl,fun v=>by show (0:Rat)=0+0;grind⟩
 |succ k ih=>
  intro last a b hk h0 ha hb
  match a,b with
  |[],b=>rw [v6];exact ⟨hb,fun v=>by show _=(0:Rat)+_;grind⟩
  |t::r,[]=>rw [v6];exact ⟨ha,fun v=>by show _=_+(0:Rat);grind⟩
  |t::r,u::q=>
   have mt:=C2 ha t (List.mem_cons_self ..)
   have mu:=C2 hb u (List.mem_cons_self ..)
   simp only [List.length_cons] at hk
   rw [v6]
   by_cases h1:t.1<u.1
   ·rw [if_pos h1]
    have hb':f8 t.1 n (u::q)=true:=T4 h1 mu.2.1 mu.2.2 (Z3 hb)
    obtain ⟨i1,i2⟩:=ih (last:=t.1) (a:=r) (b:=u::q) (by simp only [List.length_cons];omega) (by omega) (Z3 ha) hb'
    have hr:=T4 mt.1 mt.2.1 mt.2.2 i1
    refine ⟨hr,fun v=>?_⟩
    rw [P7 h0 hr,P7 h0 ha,i2]
    by_cases hv:v=t.1.toNat
    ·rw [if_pos hv,if_pos hv,a9Y (v:=v) (by omega) hb' (by omega)];grind
    ·rw [if_neg hv,if_neg hv]
   ·rw [if_neg h1]
    by_cases h2:u.1<t.1
    ·rw [if_pos h2]
     have ha':f8 u.1 n (t::r)=true:=T4 h2 mt.2.1 mt.2.2 (Z3 ha)
     obtain ⟨i1,i2⟩:=ih (last:=u.1) (a:=t::r) (b:=q) (by simp only [List.length_cons];omega) (by omega) ha' (Z3 hb)
     have hr:=T4 mu.1 mu.2.1 mu.2.2 i1
     refine ⟨hr,fun v=>?_⟩
     rw [P7 h0 hr,P7 h0 hb,i2]
     by_cases hv:v=u.1.toNat
     ·rw [if_pos hv,if_pos hv,a9Y (v:=v) (by omega) ha' (by omega)];grind
     ·rw [if_neg hv,if_neg hv]
    ·rw [if_neg h2]
     have he:t.1=u.1:=by omega
     have hq':=Z3 hb
     rw [← he] at hq'
     obtain ⟨i1,i2⟩:=ih (last:=t.1) (a:=r) (b:=q) (by omega) (by omega) (Z3 ha) hq'
     by_cases h3:t.2+u.2=0
     ·rw [if_pos h3]
      refine ⟨aF9 (by omega) i1,fun v=>?_⟩
      rw [P7 h0 ha,P7 h0 hb,←he]
      by_cases hv:v=t.1.toNat
      ·rw [if_pos hv,if_pos hv,a9Y (v:=v) (by omega) i1 (by omega)];grind
      ·rw [if_neg hv,if_neg hv,i2]
     ·rw [if_neg h3]
      have hr:=T4 (t:=(t.1,t.2+u.2)) mt.1 mt.2.1 h3 i1
      refine ⟨hr,fun v=>?_⟩
      rw [P7 h0 hr,P7 h0 ha,P7 h0 hb,←he,i2]
      by_cases hv:v=t.1.toNat
      ·simp only [if_pos hv]
      ·simp only [if_neg hv]
theorem b2c {n:Nat} {a b:List (Int × Rat)} (ha:f8 (-1) (n:Int) a=true) (hb:f8 (-1) (n:Int) b=true) (z:List Rat):k7 (v6 a b) z=k7 a z+k7 b z:=by
 obtain ⟨h1,h2⟩:=a9B (a.length+b.length) (Nat.le_refl _) (Int.le_refl _) ha hb
 rw [K3 h1,K3 ha,K3 hb,←a00]
 exact f6 fun j hj=>by rw [h2];grind
def Y5 (B:Nat) (l:List (Int × Rat)):Prop:=∀t ∈ l,∃c:Int,t.2=((c:Int):Rat)∧c.natAbs<=B
theorem aS7:∀(k:Nat) {A B:Nat} {a b:List (Int × Rat)},a.length+b.length<=k->Y5 A a->Y5 B b->Y5 (A+B) (v6 a b):=by
 intro k
 have up:∀{X Y:Nat} {l:List (Int × Rat)},X<=Y->Y5 X l->Y5 Y l:=fun h hl t ht=>by
  obtain ⟨c,h1,h2⟩:=hl t ht;exact ⟨c,h1,by omega⟩
 have tl:∀{X:Nat} {t:Int × Rat} {l:List (Int × Rat)},Y5 X (t::l)->Y5 X l:=fun h u hu=>h u (List.mem_cons_of_mem _ hu)
 have cons:∀{X:Nat} {t:Int × Rat} {l:List (Int × Rat)},(∃ c:Int,t.2=((c:Int):Rat)∧c.natAbs<=X)->Y5 X l->Y5 X (t::l):=fun h hl u hu=>by
  rcases List.mem_cons.1 hu with rfl|hu
  ·exact h
  ·exact hl u hu
 induction k with
 |zero=>
  intro A B a b hk ha hb
  have:a=[]:=List.length_eq_zero_iff.1 (by omega)
  have:b=[]:=List.length_eq_zero_iff.1 (by omega)
  subst a b
  rw [v6]
  exact up (by omega) hb
 |succ k ih=>
  intro A B a b hk ha hb
  match a,b with
  |[],b=>rw [v6];exact up (by omega) hb
  |t::r,[]=>rw [v6];exact up (by omega) ha
  |t::r,u::q=>
   simp only [List.length_cons] at hk
   obtain ⟨c,hc,hcb⟩:=ha t (List.mem_cons_self ..)
   obtain ⟨d,hd,hdb⟩:=hb u (List.mem_cons_self ..)
   rw [v6]
   split
   ·exact cons ⟨c,hc,by omega⟩ (ih (by simp only [List.length_cons];omega) (tl ha) hb)
   ·split
    ·exact cons ⟨d,hd,by omega⟩ (ih (by simp only [List.length_cons];omega) ha (tl hb))
    ·split
     ·exact ih (by omega) (tl ha) (tl hb)
     ·refine cons ⟨c+d,by show t.2+u.2=_;rw [hc,hd];push_cast;rfl,?_⟩ (ih (by omega) (tl ha) (tl hb))
      have:=Int.natAbs_add_le c d;omega
noncomputable def O3 (s:f7) (g:List (Int × Rat)):List Rat:=match a0o s (N9 g) with
 |.col c=>V4 (x6 s []) (a4O s (N9 g) c)
 |_=>x6 s (N9 g)
structure ag8 (s:f7) (g:List (Int × Rat)):Prop where
 r:i8 s=true
 z:a0o s []=.best
 t:f8 (-1) ((s.n.toNat:Nat):Int) g=true
 p:∀z,j7 s z=true->0<=k7 g z
theorem ag8.og {s:f7} {g:List (Int × Rat)} (h:ag8 s g):f8 (-1) ((s.n.toNat:Nat):Int) (N9 g)=true:=T9 h.t
theorem a9T {s:f7} {g:List (Int × Rat)} (h:ag8 s g):j7 s (O3 s g)=true∧((∃ z,j7 s z=true∧0<k7 g z)->0<k7 g (O3 s g)):=by
 have h0:=(a1V h.r rfl h.z).1
 unfold O3
 rcases ar8 (g:=N9 g) h.r h.z with ho|⟨c,ho⟩
 ·rw [ho]
  simp only
  obtain ⟨p1,p2⟩:=a1V h.r h.og ho
  refine ⟨p1,fun ⟨z,hz,hp⟩=>?_⟩
  have:=p2 z hz
  rw [a2h (s:=s) (g:=g),a2h (s:=s) (g:=g)] at this
  grind
 ·rw [ho]
  simp only
  obtain ⟨h1,h2⟩:=au6 h.r h.og ho
  refine ⟨b1x h0 h1,fun _=>?_⟩
  have h3:=P1 h0
  have hn:=a0h h.r
  rw [a2n (n:=s.n.toNat) (by omega) h1.len h.t]
  rw [a2h (s:=s) (g:=g)] at h2
  have:=h.p _ h0
  grind
def K2 (gL:List (List (Int × Rat))) (out:List Bool):Nat->List (Int × Rat)
 |0=>[]
 |k+1=>if out.getD k false=true then K2 gL out k else v6 (K2 gL out k) (gL.getD k [])
noncomputable def a0f (s:f7) (gL:List (List (Int × Rat))) (out:List Bool):List Rat:=O3 s (K2 gL out gL.length)
def a0X (g:List (Int × Rat)) (x:List Rat):Bool:=decide (0<k7 g x)
noncomputable def am5 (s:f7) (gL:List (List (Int × Rat))) (out:List Bool):List Bool:=(List.range gL.length).map fun i=>out.getD i false || a0X (gL.getD i []) (a0f s gL out)
noncomputable def t6 (s:f7) (gL:List (List (Int × Rat))):Nat->List Bool
 |0=>List.replicate gL.length false
 |k+1=>am5 s gL (t6 s gL k)
noncomputable def W2 (s:f7) (gL:List (List (Int × Rat))):Nat->List Rat
 |0=>a0f s gL (t6 s gL 0)
 |k+1=>V4 (W2 s gL k) (a0f s gL (t6 s gL (k+1)))
theorem M8 (s:f7) (gL:List (List (Int × Rat))):∀k,(t6 s gL k).length=gL.length
 |0=>by simp [t6]
 |k+1=>by simp [t6,am5]
theorem a1k {s:f7} {gL:List (List (Int × Rat))} {k i:Nat} (hi:i<gL.length):(t6 s gL (k+1)).getD i false=((t6 s gL k).getD i false || a0X (gL.getD i []) (a0f s gL (t6 s gL k))):=by
 show (am5 s gL (t6 s gL k)).getD i false=_
 unfold am5
 rw [lg3]
 simp [hi]
theorem a4U {a b:List Bool} (hl:a.length=b.length) (h:∀i,i<a.length->a.getD i false=b.getD i false):a=b:=by
 refine List.ext_getElem hl fun i h1 h2=>?_
 have:=h i h1
 rwa [lg3,lg3,lg0 h1,lg0 h2] at this
def a8X:List Bool->Nat
 |[]=>0
 |b::l=>(if b then 1 else 0)+a8X l
theorem aV3:∀l:List Bool,a8X l<=l.length
 |[]=>by simp [a8X]
 |b::l=>by
  have:=aV3 l
  cases b<;>simp [a8X]<;>omega
theorem am4:∀{a b:List Bool},a.length=b.length->(∀ i,a.getD i false=true->b.getD i false=true)->a8X a<=a8X b∧(a≠b->a8X a<a8X b)
 |[],[],_,_=>⟨Nat.le_refl _,fun h=>absurd rfl h⟩
 |x::a,y::b,hl,h=>by
  have ih:=am4 (a:=a) (b:=b) (by simpa using hl) (fun i hi=>by have:=h (i+1);simpa using this (by simpa using hi))
  have h0:=h 0
  simp only [List.getD_cons_zero] at h0
  refine ⟨?_,fun hne=>?_⟩
  ·cases x<;>cases y<;>simp [a8X] at * <;>omega
  ·cases x<;>cases y<;>simp [a8X] at * <;>first|omega|(have:=ih.2 hne;omega)
theorem b0X {s:f7} {gL:List (List (Int × Rat))} {k i:Nat} (h:(t6 s gL k).getD i false=true):(t6 s gL (k+1)).getD i false=true:=by
 by_cases hi:i<gL.length
 ·rw [a1k hi,h];rfl
 ·rw [lg3,List.getElem?_eq_none (by rw [M8];omega)] at h;cases h
theorem aA6 {s:f7} {gL:List (List (Int × Rat))}:∀k,(∀ j,j<k->t6 s gL (j+1)≠t6 s gL j)->k<=a8X (t6 s gL k)
 |0,_=>Nat.zero_le _
 |k+1,h=>by
  have ih:=aA6 (s:=s) (gL:=gL) k fun j hj=>h j (by omega)
  have:=(am4 (a:=t6 s gL k) (b:=t6 s gL (k+1)) (by rw [M8,M8]) fun i hi=>b0X hi).2 fun e=>h k (by omega) e.symm
  omega
theorem a43 {s:f7} {gL:List (List (Int × Rat))} {k:Nat} (h:∀j,j<k->t6 s gL (j+1)≠t6 s gL j):k<=gL.length:=by
 have h1:=aA6 k h
 have h2:=aV3 (t6 s gL k)
 rw [M8] at h2;omega
def b3Q (s:f7) (gL:List (List (Int × Rat))) (k:Nat):Prop:=t6 s gL (k+1)=t6 s gL k∧∀j,j<k->t6 s gL (j+1)≠t6 s gL j
theorem b6b (s:f7) (gL:List (List (Int × Rat))):∃k,b3Q s gL k:=by
 by_cases h:∃k,t6 s gL (k+1)=t6 s gL k
 ·obtain ⟨k,hk,hmin⟩:=a1a (fun k=>t6 s gL (k+1)=t6 s gL k) h
  exact ⟨k,hk,fun j hj e=>by have:=hmin j e;omega⟩
 ·have:=a43 (s:=s) (gL:=gL) (k:=gL.length+1) fun j _ e=>h ⟨j,e⟩
  omega
noncomputable def a0d (s:f7) (gL:List (List (Int × Rat))):Nat:=Classical.epsilon fun k=>b3Q s gL k
theorem a4h (s:f7) (gL:List (List (Int × Rat))):b3Q s gL (a0d s gL):=Classical.epsilon_spec (b6b s gL)
theorem aZ4 {s:f7} {gL:List (List (Int × Rat))} {k:Nat} (h1:t6 s gL (k+1)=t6 s gL k) (h2:∀j,j<k->t6 s gL (j+1)≠t6 s gL j):k=a0d s gL:=by
 obtain ⟨a,b⟩:=a4h s gL
 rcases Nat.lt_trichotomy k (a0d s gL) with h|h|h
 ·exact absurd h1 (b k h)
 ·exact h
 ·exact absurd a (h2 _ h)
noncomputable def isF (s:f7) (gL:List (List (Int × Rat))):List Bool:=t6 s gL (a0d s gL)
noncomputable def a9o (s:f7) (gL:List (List (Int × Rat))):List Rat:=(W2 s gL (a0d s gL)).map fun v=>v*Rat.divInt 1 ((a0d s gL+1:Nat):Int)
structure a0T (s:f7) (gL:List (List (Int × Rat))):Prop where
 r:i8 s=true
 z:a0o s []=.best
 g:∀g ∈ gL,f8 (-1) ((s.n.toNat:Nat):Int) g=true
 p:∀g ∈ gL,∀z,j7 s z=true->0<=k7 g z
theorem N3 {gL:List (List (Int × Rat))} {k:Nat} (h:k<gL.length):gL.getD k [] ∈ gL:=by
 rw [lg3,lg0 h];exact List.getElem_mem h
theorem Y4 {s:f7} {gL:List (List (Int × Rat))} (h:a0T s gL) (out:List Bool):∀k,k<=gL.length->f8 (-1) ((s.n.toNat:Nat):Int) (K2 gL out k)=true
 |0,_=>rfl
 |k+1,hk=>by
  have ih:=Y4 h out k (by omega)
  unfold K2
  split
  ·exact ih
  ·exact (a9B _ (Nat.le_refl _) (Int.le_refl _) ih (h.g _ (N3 (by omega)))).1
theorem a8D {s:f7} {gL:List (List (Int × Rat))} (h:a0T s gL) (out:List Bool) (z:List Rat):∀k,k<=gL.length->k7 (K2 gL out k) z=f9 (fun i=>if out.getD i false=true then 0 else k7 (gL.getD i []) z) k
 |0,_=>rfl
 |k+1,hk=>by
  have ih:=a8D h out z k (by omega)
  show _=f9 _ k+(if out.getD k false=true then 0 else k7 (gL.getD k []) z)
  unfold K2
  by_cases ho:out.getD k false=true
  ·rw [if_pos ho,if_pos ho,ih];grind
  ·rw [if_neg ho,if_neg ho,b2c (Y4 h out k (by omega)) (h.g _ (N3 (by omega))),ih]
theorem aC0 {s:f7} {gL:List (List (Int × Rat))} (h:a0T s gL) (out:List Bool):ag8 s (K2 gL out gL.length):=
 ⟨h.r,h.z,Y4 h out _ (Nat.le_refl _),fun z hz=>by
   rw [a8D h out z _ (Nat.le_refl _)]
   exact a29 fun i hi=>by
    split
    ·exact Rat.le_refl
    ·exact h.p _ (N3 hi) z hz⟩
theorem a6u {s:f7} {gL:List (List (Int × Rat))} (h:a0T s gL) (out:List Bool):j7 s (a0f s gL out)=true:=(a9T (aC0 h out)).1
theorem aB0 {s:f7} {gL:List (List (Int × Rat))} (h:a0T s gL) {i:Nat} (hi:i<gL.length):∀k,(t6 s gL k).getD i false=true->∃z,j7 s z=true∧0<k7 (gL.getD i []) z
 |0,ho=>by
  exfalso
  unfold t6 at ho
  rw [lg3] at ho
  simp [hi] at ho
 |k+1,ho=>by
  rw [a1k hi] at ho
  cases hk:(t6 s gL k).getD i false with
  |true=>exact aB0 h hi k hk
  |false=>
   rw [hk,Bool.false_or] at ho
   exact ⟨_,a6u h _,of_decide_eq_true ho⟩
theorem b49 {s:f7} {gL:List (List (Int × Rat))} (h:a0T s gL) {i:Nat} (hi:i<gL.length):(isF s gL).getD i false=true↔∃z,j7 s z=true∧0<k7 (gL.getD i []) z:=by
 constructor
 ·exact aB0 h hi _
 ·rintro ⟨z,hz,hp⟩
  cases ho:(isF s gL).getD i false with
  |true=>rfl
  |false=>
   exfalso
   have hl:=(a4h s gL).1
   have ho':(t6 s gL (a0d s gL)).getD i false=false:=ho
   have hall:0<k7 (K2 gL (t6 s gL (a0d s gL)) gL.length) z:=by
    rw [a8D h _ z _ (Nat.le_refl _)]
    refine aV4 (s:=i) (fun j hj=>?_) hi ?_
    ·split
     ·exact Rat.le_refl
     ·exact h.p _ (N3 hj) z hz
    ·rw [ho',if_neg (by decide)];exact hp
   have hx:=(a9T (aC0 h (t6 s gL (a0d s gL)))).2 ⟨z,hz,hall⟩
   rw [a8D h _ _ _ (Nat.le_refl _)] at hx
   obtain ⟨j,hj,hpj⟩:=aW4 hx
   cases hoj:(t6 s gL (a0d s gL)).getD j false with
   |true=>rw [hoj,if_pos rfl] at hpj;exact absurd hpj (by decide +kernel)
   |false=>
    rw [hoj,if_neg (by decide)] at hpj
    have h2:(t6 s gL (a0d s gL+1)).getD j false=true:=by
     rw [a1k hj,hoj,Bool.false_or]
     exact decide_eq_true hpj
    rw [hl,hoj] at h2;cases h2
structure a75 (s:f7) (c:Rat) (z:List Rat):Prop where
 r:i8 s=true
 l:(z.length:Int)=s.n
 p:∀v ∈ z,0<=v
 w:∀w ∈ s.rows,(w.kind≠1->c*w.value<=k7 w.terms z)∧(w.kind≠0->k7 w.terms z<=c*w.value)
theorem a8R {s:f7} {z:List Rat} (h:j7 s z=true):a75 s 1 z:=by
 obtain ⟨h1,h2,h3,h4⟩:=Y7.1 h
 exact ⟨h1,h2,h3,fun w hw=>by
  obtain ⟨a,b⟩:=h4 w hw
  have e:(1:Rat)*w.value=w.value:=by grind
  rw [e];exact ⟨a,b⟩⟩
theorem aM8 {s:f7} {c d:Rat} {x y:List Rat} (hx:a75 s c x) (hy:a75 s d y):a75 s (c+d) (V4 x y):=by
 have hn:=a0h hx.r
 have lx:x.length=s.n.toNat:=by have:=hx.l;omega
 have ly:y.length=s.n.toNat:=by have:=hy.l;omega
 have ll:=a15 lx ly
 refine ⟨hx.r,by omega,fun v hv=>?_,fun w hw=>?_⟩
 ·obtain ⟨j,hj,rfl⟩:=List.getElem_of_mem hv
  have e:=a4G lx ly (j:=j) (by omega)
  rw [lg3,lg0 hj] at e
  have e:(V4 x y)[j]=x.getD j 0+y.getD j 0:=e
  rw [e]
  have h1:0<=x.getD j 0:=by rw [lg3,lg0 (by omega)];exact hx.p _ (List.getElem_mem _)
  have h2:0<=y.getD j 0:=by rw [lg3,lg0 (by omega)];exact hy.p _ (List.getElem_mem _)
  grind
 ·obtain ⟨i,hi,rfl⟩:=List.getElem_of_mem hw
  have hrt:=(W4 hx.r (lg0 hi)).1
  rw [a2n lx ly hrt]
  obtain ⟨a1,a2⟩:=hx.w _ (List.getElem_mem hi)
  obtain ⟨b1,b2⟩:=hy.w _ (List.getElem_mem hi)
  have e:(c+d)*s.rows[i].value=c*s.rows[i].value+d*s.rows[i].value:=by grind
  rw [e]
  exact ⟨fun h=>by have:=a1 h;have:=b1 h;grind,fun h=>by have:=a2 h;have:=b2 h;grind⟩
theorem aa1 {n:Nat} {l:List (Int × Rat)} {x:List Rat} (k:Rat) (hl:x.length=n) (h:f8 (-1) (n:Int) l=true):k7 l (x.map fun v=>v*k)=k*k7 l x:=by
 rw [K3 h,K3 h,←z9]
 refine f6 fun j hj=>?_
 have:(x.map fun v=>v*k).getD j 0=x.getD j 0*k:=by
  rw [lg3,List.getElem?_map,lg3,lg0 (by omega)];rfl
 rw [this];grind
theorem ar0 {s:f7} {c k:Rat} {x:List Rat} (hx:a75 s c x) (k0:0<=k) (h:k*c=1):j7 s (x.map fun v=>v*k)=true:=by
 have hn:=a0h hx.r
 have lx:x.length=s.n.toNat:=by have:=hx.l;omega
 refine Y7.2 ⟨hx.r,by simpa using hx.l,fun v hv=>?_,fun w hw=>?_⟩
 ·obtain ⟨u,hu,rfl⟩:=List.mem_map.1 hv
  exact Rat.mul_nonneg (hx.p u hu) k0
 ·obtain ⟨i,hi,rfl⟩:=List.getElem_of_mem hw
  have hrt:=(W4 hx.r (lg0 hi)).1
  rw [aa1 k lx hrt]
  obtain ⟨a1,a2⟩:=hx.w _ (List.getElem_mem hi)
  have e:s.rows[i].value=k*(c*s.rows[i].value):=by rw [← Rat.mul_assoc,h];grind
  refine ⟨fun h=>?_,fun h=>?_⟩
  ·have:=a7Q (a1 h) k0;rw [← e] at this;exact this
  ·have:=a7Q (a2 h) k0;rw [← e] at this;exact this
theorem sumX_holds {s:f7} {gL:List (List (Int × Rat))} (h:a0T s gL):∀k,a75 s ((k+1:Nat):Rat) (W2 s gL k)
 |0=>a8R (a6u h _)
 |k+1=>by
  have:=aM8 (sumX_holds h k) (a8R (a6u h (t6 s gL (k+1))))
  have e:(((k+1+1:Nat)):Rat)=((k+1:Nat):Rat)+1:=by push_cast;rfl
  rw [e];exact this
theorem aD0 {s:f7} {gL:List (List (Int × Rat))} (h:a0T s gL) {i:Nat} (hi:i<gL.length):∀k,0<=k7 (gL.getD i []) (W2 s gL k)∧((t6 s gL (k+1)).getD i false=true->0<k7 (gL.getD i []) (W2 s gL k))
 |0=>by
  refine ⟨h.p _ (N3 hi) _ (a6u h _),fun ho=>?_⟩
  rw [a1k hi] at ho
  have e:(t6 s gL 0).getD i false=false:=by
   show (List.replicate gL.length false).getD i false=false
   rw [lg3];simp [hi]
  rw [e,Bool.false_or] at ho
  exact of_decide_eq_true ho
 |k+1=>by
  obtain ⟨h1,h2⟩:=aD0 h hi k
  have hn:=a0h h.r
  have lx:(W2 s gL k).length=s.n.toNat:=by have:=(sumX_holds h k).l;omega
  have hf:=a6u h (t6 s gL (k+1))
  have ly:(a0f s gL (t6 s gL (k+1))).length=s.n.toNat:=by have:=(P1 hf).2;omega
  have e:k7 (gL.getD i []) (W2 s gL (k+1))=k7 (gL.getD i []) (W2 s gL k)+k7 (gL.getD i []) (a0f s gL (t6 s gL (k+1))):=a2n lx ly (h.g _ (N3 hi))
  have h3:=h.p _ (N3 hi) _ hf
  rw [e]
  refine ⟨by grind,fun ho=>?_⟩
  rw [a1k hi] at ho
  cases hk:(t6 s gL (k+1)).getD i false with
  |true=>have:=h2 hk;grind
  |false=>
   rw [hk,Bool.false_or] at ho
   have:=of_decide_eq_true ho
   grind
theorem b1G (k:Nat):0<=Rat.divInt 1 ((k+1:Nat):Int)∧Rat.divInt 1 ((k+1:Nat):Int)*((k+1:Nat):Rat)=1∧0<Rat.divInt 1 ((k+1:Nat):Int):=by
 have h0:((k+1:Nat):Rat)≠0:=by
  intro e
  have:((k+1:Nat):Rat)=((0:Nat):Rat):=e
  have:=Rat.natCast_inj.1 this
  omega
 have e:Rat.divInt 1 ((k+1:Nat):Int)=1 / ((k+1:Nat):Rat):=by rw [Rat.divInt_eq_div];rfl
 have e2:Rat.divInt 1 ((k+1:Nat):Int)*((k+1:Nat):Rat)=1:=by rw [e,Rat.div_def,Rat.mul_assoc,Rat.inv_mul_cancel _ h0];grind
 have hp:0<Rat.divInt 1 ((k+1:Nat):Int):=by
  rw [e,Rat.div_def]
  have:0<((k+1:Nat):Rat):=by
   have:((0:Nat):Rat)<((k+1:Nat):Rat):=by exact_mod_cast (show 0<k+1 by omega)
   exact this
  have:=Rat.inv_pos.2 this
  grind
 exact ⟨Rat.le_of_lt hp,e2,hp⟩
theorem b24 {s:f7} {gL:List (List (Int × Rat))} (h:a0T s gL):j7 s (a9o s gL)=true∧∀i,i<gL.length->(isF s gL).getD i false=true->0<k7 (gL.getD i []) (a9o s gL):=by
 obtain ⟨q1,q2,q3⟩:=b1G (a0d s gL)
 have hh:=sumX_holds h (a0d s gL)
 have hn:=a0h h.r
 have lx:(W2 s gL (a0d s gL)).length=s.n.toNat:=by have:=hh.l;omega
 refine ⟨ar0 hh q1 q2,fun i hi ho=>?_⟩
 have hp:=(aD0 h hi (a0d s gL)).2 (by rw [(a4h s gL).1];exact ho)
 unfold a9o
 rw [aa1 _ lx (h.g _ (N3 hi))]
 exact Rat.mul_pos q3 hp
structure b6n where
 hh:Int
 state:Int
 w:List Fr
 wo:List Fr
 pr:List Fr
def b6n.row (v:b6n):List T:=[ti v.hh,ti v.state,B4 v.w,B4 v.wo,B4 v.pr]
def b6n.val (v:b6n):b7G:=⟨v.hh,v.state,v.w.map fv,v.wo.map fv,v.pr.map fv⟩
def aN1 (s:f7) (g:List (Int × Rat)) (y:List Fr):Bool:=(decide (y.length=s.rows.length) && y.all B5) && (a33 s g (y.map fv) && decide (a2j s (yN (y.map fv))=0))
def a0v (t:e7) (find:Int):Bool:=decide (o9 t=0) && decide (0<=find) && decide (find<t.finds.length)
theorem a8u (t:e7) (hs:t.Sized) (find:Int):a9 Tryz.prog 77 [trS t,a7 .i64 find] [] (f5 (a0v t find)) []:=by
 have ck:=a67 t hs
 have m1:(t.finds.map L7.row).length=t.finds.length:=by simp
 unfold a0v
 by_cases h1:o9 t=0
 ·rw [decide_eq_true h1,Bool.true_and]
  (refine ac Tryz.func77 ?_;(conv=>whnf);repeat ((first|refine b0x ?_|refine zy ?_);conv=>whnf))
  repeat' (first|refine zz ?_|refine qp ck ?_|refine zd ?_ ?_<;>intro h<;>try omega|refine zy ?_|fail)<;>conv=>whnf
  all_goals first
   |omega
   |(refine b9 ?_;symm;simp only [Bool.and_eq_true,decide_eq_true_eq,Bool.and_eq_false_iff,decide_eq_false_iff_not];omega)
 ·rw [decide_eq_false h1,Bool.false_and,Bool.false_and]
  (refine ac Tryz.func77 ?_;(conv=>whnf);repeat ((first|refine b0x ?_|refine zy ?_);conv=>whnf))
  repeat' (first|refine zz ?_|refine qp ck ?_|refine zd ?_ ?_<;>intro h<;>try omega|refine zy ?_|fail)<;>conv=>whnf
  all_goals first
   |omega
   |exact b9 rfl
def a1b (e:Ev) (k:Nat):List Int:=(p5 e k).map fun i:Nat=>(i:Int)
theorem b10 (e:Ev) (k:Nat):(a1b e k).length=(p5 e k).length:=by simp [a1b]
theorem aO3 {e:Ev} {k:Nat} {m:p6} (h:e.moves[k]? =some m):a1b e (k+1)=if m9 e m.src=0 then a1b e k++[(k:Int)] else a1b e k:=by
 unfold a1b
 conv=>lhs;unfold p5
 rw [h]
 simp only
 split
 ·simp
 ·rfl
def T6 (e:Ev):List Int:=a1b e e.moves.length
theorem b0e (e:Ev) (hs:e.Sized) (h0:z6 e=0):a9 Tryz.prog 97 [evS e] [] (d8 (T6 e)) []:=by
 have m1:(e.moves.map p6.row).length=e.moves.length:=by simp
 have l1:=hs.s2
 unfold T6
 (refine ac Tryz.func97 ?_;(conv=>whnf);repeat ((first|refine b0x ?_|refine zy ?_);conv=>whnf))
 repeat' (first|refine zz ?_|refine zd ?_ ?_<;>intro h<;>try omega|refine zy ?_|fail)<;>conv=>whnf
 refine d6 c8 (fun k=>([J,S.c (C.t (T.ptr (evT e))),J,S.c (C.own 0 0 (a1b e k).length true),J,J,J,S.c (C.t (a0J e.moves)),a7 .i64 e.moves.length,a7 .i64 k,J,J,J,J,J,J,J,J,J,J,J,J,J,J,J,J,J,J],[o4 (a1b e k)])) e.moves.length (fun _=>True) [none] trivial
  ⟨rfl,rfl,⟨⟨rfl,rfl⟩,trivial⟩,⟨rfl,⟨rfl,rfl,rfl⟩,rfl,c6 (by simp),rfl,trivial⟩⟩ ?_
 intro k hk _
 have ll:=x7 (e:=e) k
 have lA:(a1b e k).length<=(o4 (a1b e k)).rows.length:=by show _<=(toC _).length;simp [toC]
 have l2:=b10 e k
 by_cases hlt:k<e.moves.length
 ·obtain ⟨m,hm⟩:∃m,e.moves[k]? =some m:=⟨_,lg0 hlt⟩
  have ms:=O4 (B3 h0 (lg2 hm))
  obtain ⟨p,hp⟩:∃p,e.places[m.src.toNat]? =some p:=⟨_,lg0 (by omega)⟩
  have hk0:m9 e m.src=p.kind:=by unfold m9;rw [hp];rfl
  rw [aO3 hm,hk0]
  by_cases hb:p.kind=0
  ·rw [if_pos hb]
   conv=>whnf
   repeat' (first|refine zz ?_|refine qp toC ?_|refine b8 hm ?_|refine p4 ms.1 hp ?_|refine o7 lA (by simp [toC];omega) ?_|refine zd ?_ ?_<;>intro h<;>try omega|refine zy ?_|fail)<;>conv=>whnf
   all_goals first
    |omega
    |(refine ⟨hlt,trivial,[some 2],rfl,rfl,⟨a8 (rows:=(a1b e k++[(k:Int)]).map d9) rfl rfl rfl ?_ rfl,trivial⟩,⟨rfl,⟨rfl,rfl,?_,fun h=>h⟩,rfl,rfl,c6 (by omega),trivial⟩⟩
      ·exact y5 (f:=d9) (x:=(k:Int)) rfl
      ·simp [toC])
  ·rw [if_neg hb]
   conv=>whnf
   repeat' (first|refine zz ?_|refine b8 hm ?_|refine p4 ms.1 hp ?_|refine zd ?_ ?_<;>intro h<;>try omega|refine zy ?_|fail)<;>conv=>whnf
   all_goals first
    |omega
    |exact ⟨hlt,trivial,[some 0],rfl,rfl,⟨a8 (rows:=(a1b e k).map d9) rfl rfl rfl rfl rfl,trivial⟩,⟨rfl,⟨rfl,rfl,rfl,fun h=>h⟩,rfl,rfl,c6 (by omega),trivial⟩⟩
 ·have hke:k=e.moves.length:=by omega
  subst hke
  conv=>whnf
  repeat' (first|refine zz ?_|refine zd ?_ ?_<;>intro h<;>try omega|refine zy ?_|fail)<;>conv=>whnf
  all_goals first
   |omega
   |exact Q3 rfl (fun h=>h) rfl rfl (by simp)
theorem a6Z (v c:Int) (h0:-9223372036854775808<=c) (h1:c<=9223372036854775807):a9 Tryz.prog 122 [a7 .i64 v,a7 .i64 c] [] (n9 [(v,((c:Int):Rat))]) []:=by
 have ic:=G7 c h0 h1
 (refine ac Tryz.func122 ?_;(conv=>whnf);repeat ((first|refine b0x ?_|refine zy ?_);conv=>whnf))
 repeat' (first|refine zz ?_|refine qp ic ?_|refine zd ?_ ?_<;>intro h<;>try omega|refine zy ?_|fail)<;>conv=>whnf
 all_goals first
  |exact k5 (show a8c [] _ _ _ from rfl)
def b1K (t:e7):List C:=[.t (ti t.ev.mats),.t (ti t.ev.hhs),.t (ti t.ev.scs),.t (a0D t.ev.places),.t (a0J t.ev.moves),.t (W5 t.ev.certs),.t (G1 t.ev.recalls),.t (Z7 t.ev.purities),.t (.sl 0 .nil []),.t (a1C t.cleans)]
theorem b3H {w:World} {ι:Io} {M:Ms} {t:e7} {v:Value} (h:RS w ι M (.agg (b1K t)) v):RS w ι M (trS (t8 t)) v:=by
 cases h with
 |agg vs hl hr=>
  refine .agg vs hl fun j c hj=>?_
  by_cases h8:j=8
  ·subst h8
   injection hj with hj;subst hj
   have h9:=hr 8 _ rfl
   cases h9 with
   |t h9=>exact .t (h9.weak rfl)
  ·refine hr j c ?_
   rcases j with _|_|_|_|_|_|_|_|_|_|j
   all_goals first
    |exact hj
    |exact absurd rfl h8
theorem a87 {P:Program} {g:FuncId} {t:e7} {x:S} {H H':Hp} {r:S} (h:a9 P g [trS (t8 t),x] H r H'):a9 P g [.agg (b1K t),x] H r H':=by
 refine a5u h rfl fun w ι M j a b v hx hy hr=>?_
 rcases j with _|_|j
 ·injection hx with hx;injection hy with hy;subst hx hy;exact b3H hr
 ·injection hx with hx;injection hy with hy;subst hx hy;exact hr
 ·simp at hx
theorem b17 (t:e7) (kind:Int) (hs:t.Sized) (h1:o9 t=0) (k0:0<=kind) (k1:kind<8) (H:Hp):U1 Tryz.prog 60 [.agg (b1K t),a7 .i64 kind] H (.tup [.agg [.t (ti t.ev.moves.length),.own H.length 0 (N6 (t8 t) kind).rows.length true],a7 .i64 0]) [J2 (N6 (t8 t) kind).rows]:=by
 have hc:¬(o9 (t8 t)≠0∨kind<0∨8<=kind):=by have:=a1Y h1;omega
 have h:=a87 (b1o (t8 t) kind ⟨hs.ev,by simp [t8],hs.c⟩ hc)
 exact a5a (j:=1) h rfl rfl (c7 _) rfl rfl
def aJ0 (l:List Nat) (i k:Nat):List B1:=J3 (l.take k) i
theorem b1j {l:List Nat} {i k j:Nat} (h:l[k]? =some j):aJ0 l i (k+1)=if j≠i then aJ0 l i k++[n6 j 2 ((0:Int):Rat)] else aJ0 l i k:=by
 unfold aJ0 J3
 have e:l.take (k+1)=l.take k++[j]:=by rw [List.take_add_one,h];rfl
 rw [e,List.filter_append,List.map_append]
 by_cases hj:j≠i
 ·rw [if_pos hj];simp [hj]
 ·rw [if_neg hj];simp [hj]
def Q9 (t:e7) (kind:Int) (i k:Nat):List B1:=(N6 (t8 t) kind).rows++aJ0 (i5 t.ev) i k
theorem aL4 {t:e7} {kind:Int} {i k:Nat} (hm:t.ev.moves.length<=14) (hc:t.cleans.length<=50):(Q9 t kind i k).length<=750:=by
 unfold Q9
 have hl:=O7 (t:=t8 t) (kind:=kind) t.ev.moves.length
 have hl2:t.ev.moves.length*(2+(t8 t).finds.length+(t8 t).cleans.length)<=14*52:=Nat.mul_le_mul hm (by show 2+0+t.cleans.length<=52;omega)
 have hl3:=a1s ((i5 t.ev).take k) i
 have hl4:=x7 (e:=t.ev) t.ev.moves.length
 have hl5:((i5 t.ev).take k).length<=(i5 t.ev).length:=by rw [List.length_take];omega
 have hl6:(i5 t.ev).length<=t.ev.moves.length:=hl4
 have hl7:(N6 (t8 t) kind).rows.length<=14*52:=Nat.le_trans hl hl2
 rw [List.length_append]
 show _+(J3 ((i5 t.ev).take k) i).length<=750
 omega
theorem aP1 (t:e7) (kind:Int) (i:Nat):Q9 t kind i (i5 t.ev).length=(p9 t kind i).rows:=by
 unfold Q9 aJ0 p9;rw [lg4 (Nat.le_refl _)]
theorem a5o {e:Ev} {k j:Nat} (h:(i5 e)[k]? =some j):(T6 e)[k]? =some (j:Int):=by
 unfold T6 a1b
 rw [List.getElem?_map]
 have:(p5 e e.moves.length)[k]? =some j:=h
 rw [this];rfl
theorem a5s (e:Ev):(T6 e).length=(i5 e).length:=by simp [T6,a1b,i5]
set_option maxHeartbeats 4000000 in
theorem aZ5 (t:e7) (hs:t.Sized) (h1:o9 t=0) (find:Int) (f:L7) (f0:0<=find) (hf:t.finds[find.toNat]? =some f) (i:Nat) (hm:t.ev.moves.length<=14):
 a9 Tryz.prog 99 [trS t,a7 .i64 find,a7 .i64 i,d8 (T6 t.ev)] [] (a2i (p9 t f.kind i)) []:=by
 obtain ⟨q1,q2,q3,q4,q5⟩:=p8 h1
 have hg:=A0 q4 f (lg2 hf)
 have m1:((T6 t.ev).map d9).length=(i5 t.ev).length:=by rw [List.length_map,a5s]
 have sy:=fun H:Hp=>b17 t f.kind hs h1 (by omega) (by omega) H
 have i0:=G7 0 (by decide) (by decide)
 have ll:(i5 t.ev).length<=t.ev.moves.length:=x7 _
 have eK0:Q9 t f.kind i 0=(N6 (t8 t) f.kind).rows:=by unfold Q9 aJ0;rw [List.take_zero];simp [J3]
 (refine ac Tryz.func99 ?_;(conv=>whnf);repeat (refine zy ?_;conv=>whnf))
 repeat' (first|refine zz ?_|refine qp 5 ?_|refine p4 f0 hf ?_|refine .inl ⟨_,_,sy _,?_⟩|refine bl0 [5] ?_|refine zd ?_ ?_<;>intro h<;>try omega|refine zy ?_|fail)<;>conv=>whnf
 refine d6 c8 (fun k=>([J,J,a7 .i64 i,J,J,J,J,J,S.c (C.ptr 0 0 0),J,S.c (C.ptr 1 0 0),J,J,J,J,J,J,J,J,J,J,J,J,J,J,J,J,d8 (T6 t.ev),a7 .i64 (i5 t.ev).length,a7 .i64 k,J,J,J,J,J,J,J,J,J,J,J,J,J,J,J,J,J],[a0P,a21 t.ev.moves.length 2 (Q9 t f.kind i k).length,J2 (Q9 t f.kind i k)])) (i5 t.ev).length (fun _=>True) [some 1,some 3,some 2] trivial
  ⟨rfl,rfl,⟨⟨rfl,rfl,rfl,.inr ⟨⟨rfl,rfl,trivial⟩,trivial⟩⟩,⟨rfl,rfl,rfl,.inr ⟨⟨rfl,⟨rfl,rfl,by rw [eK0],fun h=>h⟩,trivial⟩,trivial⟩⟩,a8 (rows:=(Q9 t f.kind i 0).map w5) rfl rfl rfl (by rw [eK0]) rfl,trivial⟩,⟨rfl,⟨rfl,rfl,rfl⟩,⟨rfl,rfl,rfl⟩,rfl,c6 (by rw [m1]),rfl,trivial⟩⟩ ?_
 intro k hk _
 have lk:=aL4 (t:=t) (kind:=f.kind) (i:=i) (k:=k) hm q3
 by_cases hlt:k<(i5 t.ev).length
 ·obtain ⟨j,hj⟩:∃j,(i5 t.ev)[k]? =some j:=⟨_,lg0 hlt⟩
  have hji:=a5o hj
  have on:=a6Z j 1 (by decide) (by decide)
  have eS:Q9 t f.kind i (k+1)=if j≠i then Q9 t f.kind i k++[n6 j 2 ((0:Int):Rat)] else Q9 t f.kind i k:=by
   unfold Q9
   rw [b1j hj]
   split
   ·rw [List.append_assoc]
   ·rfl
  rw [eS]
  have lA:(Q9 t f.kind i k).length<=(J2 (Q9 t f.kind i k)).rows.length:=by show _<=(toC _).length;simp [toC]
  by_cases hji2:j≠i
  ·rw [if_pos hji2]
   conv=>whnf
   repeat' (first|refine zz ?_|refine qp on ?_|refine qp i0 ?_|refine qp toC ?_|refine qp (0,1) ?_|refine b8 hji ?_|refine o7 lA (by simp [toC];omega) ?_|refine bl0 [0,1] ?_|refine zd ?_ ?_<;>intro h<;>try omega|refine zy ?_|fail)<;>conv=>whnf
   all_goals first
    |omega
    |(refine ⟨hlt,trivial,[some 0,some 1,some 3],rfl,rfl,⟨⟨rfl,rfl,rfl,.inr ⟨⟨rfl,rfl,trivial⟩,trivial⟩⟩,⟨rfl,rfl,rfl,.inr ⟨⟨rfl,⟨rfl,rfl,?_,fun h=>h⟩,trivial⟩,trivial⟩⟩,a8 (rows:=(Q9 t f.kind i k++[n6 j 2 ((0:Int):Rat)]).map w5) rfl rfl rfl ?_ rfl,trivial⟩,⟨rfl,⟨rfl,rfl,rfl⟩,⟨rfl,rfl,rfl⟩,rfl,rfl,c6 (by omega),trivial⟩⟩
      ·simp [toC]
      ·exact y5 (f:=w5) (x:=n6 j 2 ((0:Int):Rat)) rfl)
  ·rw [if_neg hji2]
   conv=>whnf
   repeat' (first|refine zz ?_|refine qp on ?_|refine qp i0 ?_|refine b8 hji ?_|refine zd ?_ ?_<;>intro h<;>try omega|refine zy ?_|fail)<;>conv=>whnf
   all_goals first
    |omega
    |exact ⟨hlt,trivial,[some 0,some 1,some 2],rfl,rfl,⟨⟨rfl,rfl,rfl,.inr ⟨⟨rfl,rfl,trivial⟩,trivial⟩⟩,⟨rfl,rfl,rfl,.inr ⟨⟨rfl,⟨rfl,rfl,rfl,fun h=>h⟩,trivial⟩,trivial⟩⟩,c9 (c7 _),trivial⟩,⟨rfl,⟨rfl,rfl,rfl⟩,⟨rfl,rfl,rfl⟩,rfl,rfl,c6 (by omega),trivial⟩⟩
 ·have hke:k=(i5 t.ev).length:=by omega
  subst hke
  have e9:=aP1 t f.kind i
  conv=>whnf
  repeat' (first|refine zz ?_|refine zd ?_ ?_<;>intro h<;>try omega|refine zy ?_|fail)<;>conv=>whnf
  all_goals first
   |omega
   |(rw [e9];exact k5 ⟨rfl,show VC _ (fun id=>E1 [] id=true) _ _ from t5 rfl rfl (by intro h;cases h) rfl rfl (by rw [List.length_map]),trivial⟩)
def a8i (i:Nat):Rat:=if i % 2=0 then 1 else -1
theorem b13 (i:Nat):a8i (i+1)=-(a8i i):=by
 unfold a8i
 by_cases h:i % 2=0
 ·rw [if_pos h,if_neg (by omega)]
 ·rw [if_neg h,if_pos (by omega)];grind
def v4 (i:Nat) (M:Nat->Nat->Rat):Nat->Nat->Rat:=fun r c=>M (if r<i then r else r+1) (c+1)
def E8:Nat->(Nat->Nat->Rat)->Rat
 |0,_=>1
 |n+1,M=>f9 (fun i=>a8i i*M i 0*E8 n (v4 i M)) (n+1)
theorem K0 (n:Nat) (M:Nat->Nat->Rat):E8 (n+1) M=f9 (fun i=>a8i i*M i 0*E8 n (v4 i M)) (n+1):=rfl
theorem a18:∀{n:Nat} {M N:Nat->Nat->Rat},(∀ i j,i<n->j<n->M i j=N i j)->E8 n M=E8 n N
 |0,_,_,_=>rfl
 |n+1,M,N,h=>by
  rw [K0,K0]
  refine f6 fun i hi=>?_
  rw [h i 0 hi (by omega),a18 (n:=n) (M:=v4 i M) (N:=v4 i N) fun r c hr hc=>?_]
  unfold v4
  split
  ·exact h _ _ (by omega) (by omega)
  ·exact h _ _ (by omega) (by omega)
def z7 (M:Nat->Nat->Rat) (r:Nat) (v:Nat->Rat):Nat->Nat->Rat:=fun i=>if i=r then v else M i
theorem a7m {M:Nat->Nat->Rat} {r:Nat}:z7 M r (M r)=M:=by
 funext i;unfold z7;by_cases h:i=r
 ·rw [if_pos h,h]
 ·rw [if_neg h]
theorem ab1 {M:Nat->Nat->Rat} {r:Nat} {v:Nat->Rat}:v4 r (z7 M r v)=v4 r M:=by
 funext a c;unfold v4 z7
 by_cases h:a<r
 ·rw [if_pos h,if_neg (by omega)]
 ·rw [if_neg h,if_neg (by omega)]
theorem ac4 {M:Nat->Nat->Rat} {i r:Nat} {v:Nat->Rat} (h:i<r):v4 i (z7 M r v)=z7 (v4 i M) (r - 1) (fun c=>v (c+1)):=by
 funext a c;unfold v4 z7
 by_cases ha:a<i
 ·simp only [if_pos ha]
  rw [if_neg (by omega),if_neg (by omega)]
 ·simp only [if_neg ha]
  by_cases h2:a+1=r
  ·rw [if_pos h2,if_pos (by omega)]
  ·rw [if_neg h2,if_neg (by omega)]
theorem ac2 {M:Nat->Nat->Rat} {i r:Nat} {v:Nat->Rat} (h:r<i):v4 i (z7 M r v)=z7 (v4 i M) r (fun c=>v (c+1)):=by
 funext a c;unfold v4 z7
 by_cases ha:a<i
 ·simp only [if_pos ha]
  by_cases h2:a=r
  ·rw [if_pos h2,if_pos h2]
  ·rw [if_neg h2,if_neg h2]
 ·simp only [if_neg ha]
  rw [if_neg (by omega),if_neg (by omega)]
theorem a4H:∀{n:Nat} {M:Nat->Nat->Rat} {r:Nat} {a b:Rat} {v w:Nat->Rat},r<n->E8 n (z7 M r fun c=>a*v c+b*w c)=a*E8 n (z7 M r v)+b*E8 n (z7 M r w)
 |0,_,_,_,_,_,_,h=>by omega
 |n+1,M,r,a,b,v,w,h=>by
  rw [K0,K0,K0,←z9,←z9,←a00]
  refine f6 fun i hi=>?_
  by_cases e:i=r
  ·subst e
   rw [ab1,ab1,ab1]
   unfold z7
   simp only [if_true]
   grind
  ·have e2:∀u:Nat->Rat,z7 M r u i 0=M i 0:=fun u=>by unfold z7;rw [if_neg e]
   rw [e2,e2,e2]
   by_cases h2:i<r
   ·rw [ac4 h2,ac4 h2,ac4 h2,a4H (n:=n) (M:=v4 i M) (r:=r - 1) (a:=a) (b:=b) (v:=fun c=>v (c+1)) (w:=fun c=>w (c+1)) (by omega)]
    grind
   ·rw [ac2 (by omega),ac2 (by omega),ac2 (by omega),a4H (n:=n) (M:=v4 i M) (r:=r) (a:=a) (b:=b) (v:=fun c=>v (c+1)) (w:=fun c=>w (c+1)) (by omega)]
    grind
theorem b0b {f:Nat->Rat} {r:Nat}:∀{n:Nat},r+1<n->(∀ i,i<n->i≠r->i≠r+1->f i=0)->f9 f n=f r+f (r+1)
 |0,h,_=>by omega
 |n+1,h,h0=>by
  show f9 f n+f n=_
  by_cases e:n=r+1
  ·subst e
   show f9 f r+f r+f (r+1)=_
   rw [s6 fun j hj=>h0 j (by omega) (by omega) (by omega)];grind
  ·rw [b0b (r:=r) (by omega) (fun i hi=>h0 i (by omega)),h0 n (by omega) (by omega) e];grind
theorem a4B:∀{n:Nat} {M:Nat->Nat->Rat} {r:Nat},r+1<n->M r=M (r+1)->E8 n M=0
 |0,_,_,h,_=>by omega
 |n+1,M,r,h,he=>by
  rw [K0,b0b h fun i hi h1 h2=>?_]
  ·have em:v4 r M=v4 (r+1) M:=by
    funext a c;unfold v4
    by_cases h1:a<r
    ·rw [if_pos h1,if_pos (by omega)]
    ·rw [if_neg h1]
     by_cases h2:a<r+1
     ·have:a=r:=by omega
      subst this
      rw [if_pos h2,he]
     ·rw [if_neg h2]
   rw [em,he,b13];grind
  ·by_cases hlt:i<r
   ·rw [a4B (n:=n) (M:=v4 i M) (r:=r - 1) (by omega) (by
     funext c;unfold v4
     rw [if_neg (by omega),if_neg (by omega),show r - 1+1=r by omega,he])]
    grind
   ·rw [a4B (n:=n) (M:=v4 i M) (r:=r) (by omega) (by
     funext c;unfold v4
     rw [if_pos (by omega),if_pos (by omega),he])]
    grind
theorem a4D {M:Nat->Nat->Rat} {r s:Nat} {v w:Nat->Rat} (h:r≠s):z7 (z7 M r v) s w=z7 (z7 M s w) r v:=by
 funext i;unfold z7
 by_cases h1:i=r
 ·subst h1;rw [if_neg h,if_pos rfl,if_pos rfl]
 ·rw [if_neg h1]
  by_cases h2:i=s
  ·simp only [if_pos h2,if_neg h1]
  ·simp only [if_neg h2,if_neg h1]
theorem a04 {M:Nat->Nat->Rat} {r:Nat} {v:Nat->Rat}:z7 M r v r=v:=by unfold z7;rw [if_pos rfl]
theorem X3 {M:Nat->Nat->Rat} {r i:Nat} {v:Nat->Rat} (h:i≠r):z7 M r v i=M i:=by unfold z7;rw [if_neg h]
theorem au4 {n:Nat} {M:Nat->Nat->Rat} {r:Nat} (v w:Nat->Rat) (h:r<n):E8 n (z7 M r fun c=>v c+w c)=E8 n (z7 M r v)+E8 n (z7 M r w):=by
 have:=a4H (M:=M) (a:=1) (b:=1) (v:=v) (w:=w) h
 have e:(fun c=>(1:Rat)*v c+1*w c)=fun c=>v c+w c:=by funext c;grind
 rw [e] at this;grind
theorem b2d {n:Nat} {M:Nat->Nat->Rat} {r:Nat} (h:r+1<n) (v w:Nat->Rat):E8 n (z7 (z7 M r v) (r+1) w)=-(E8 n (z7 (z7 M r w) (r+1) v)):=by
 have key:E8 n (z7 (z7 M r fun c=>v c+w c) (r+1) fun c=>v c+w c)=0:=a4B h (by rw [a04,X3 (by omega),a04])
 rw [au4 v w h,a4D (show r≠r+1 by omega),a4D (show r≠r+1 by omega),au4 v w (by omega),au4 v w (by omega)] at key
 have z1:E8 n (z7 (z7 M (r+1) v) r v)=0:=a4B h (by rw [a04,X3 (by omega),a04])
 have z2:E8 n (z7 (z7 M (r+1) w) r w)=0:=a4B h (by rw [a04,X3 (by omega),a04])
 rw [z1,z2] at key
 rw [a4D (show r≠r+1 by omega),a4D (show r≠r+1 by omega)]
 grind
theorem aT0:∀(d:Nat) {n:Nat} {M:Nat->Nat->Rat} {r s:Nat},s=r+1+d->s<n->M r=M s->E8 n M=0
 |0,n,M,r,s,hs,hn,he=>by subst hs;exact a4B hn he
 |d+1,n,M,r,s,hs,hn,he=>by
  obtain ⟨q,rfl⟩:∃q,s=q+1:=⟨s - 1,by omega⟩
  have e1:M=z7 (z7 M q (M q)) (q+1) (M (q+1)):=by rw [a7m,a7m]
  rw [e1,b2d hn]
  have:=aT0 d (n:=n) (M:=z7 (z7 M q (M (q+1))) (q+1) (M q)) (r:=r) (s:=q) (by omega) (by omega) (by
   rw [X3 (by omega),X3 (by omega),X3 (by omega),a04,he])
  rw [this];grind
theorem b2S {n:Nat} {M:Nat->Nat->Rat} {r s:Nat} (hr:r<n) (hs:s<n) (h:r≠s) (he:M r=M s):E8 n M=0:=by
 by_cases hlt:r<s
 ·exact aT0 (s - r - 1) (by omega) hs he
 ·exact aT0 (r - s - 1) (r:=s) (s:=r) (by omega) hr he.symm
theorem aZ7 {n:Nat} {M:Nat->Nat->Rat} {r:Nat} (hr:r<n) (c:Nat->Rat) (v:Nat->Nat->Rat):∀k,E8 n (z7 M r fun l=>f9 (fun i=>c i*v i l) k)=f9 (fun i=>c i*E8 n (z7 M r (v i))) k
 |0=>by
  have:=a4H (M:=M) (a:=0) (b:=0) (v:=fun _=>0) (w:=fun _=>0) hr
  have e:(fun l:Nat=>f9 (fun i=>c i*v i l) 0)=fun _=>(0:Rat)*0+0*0:=by funext l;show (0:Rat)=_;grind
  rw [e,this];show _=(0:Rat);grind
 |k+1=>by
  have ih:=aZ7 (M:=M) hr c v k
  have:=a4H (M:=M) (a:=1) (b:=c k) (v:=fun l=>f9 (fun i=>c i*v i l) k) (w:=v k) hr
  have e:(fun l=>f9 (fun i=>c i*v i l) (k+1))=fun l=>(1:Rat)*f9 (fun i=>c i*v i l) k+c k*v k l:=by funext l;show f9 _ k+_=_;grind
  rw [e,this,ih];show _=f9 _ k+_;grind
theorem a9l {n:Nat} {M:Nat->Nat->Rat} {c:Nat->Rat} {u:Nat->Rat} (hu:∀l,l<n->u l=f9 (fun k=>c k*M k l) n) {j:Nat} (hj:j<n):E8 n (z7 M j u)=c j*E8 n M:=by
 have e:E8 n (z7 M j u)=E8 n (z7 M j fun l=>f9 (fun k=>c k*M k l) n):=a18 fun a b ha hb=>by
  unfold z7
  split
  ·exact hu b hb
  ·rfl
 rw [e,aZ7 hj,x9 hj,a7m,s6 fun k hk=>?_]
 ·grind
 ·by_cases h:k=j
  ·rw [if_pos h]
  ·rw [if_neg h,b2S (r:=k) (s:=j) hk hj h (by rw [X3 h,a04])];grind
theorem aP2 (i:Nat):∃z:Int,a8i i=((z:Int):Rat)∧z.natAbs=1:=by
 unfold a8i
 split
 ·exact ⟨1,rfl,rfl⟩
 ·exact ⟨-1,rfl,rfl⟩
def a6d:Nat->(Nat->Nat)->Nat
 |0,_=>1
 |n+1,B=>(n+1)*(B 0*a6d n fun c=>B (c+1))
theorem aA5 {f:Nat->Rat} {B:Nat}:∀{n:Nat},(∀ i,i<n->∃z:Int,f i=((z:Int):Rat)∧z.natAbs<=B)->∃z:Int,f9 f n=((z:Int):Rat)∧z.natAbs<=n*B
 |0,_=>⟨0,rfl,by simp⟩
 |n+1,h=>by
  obtain ⟨a,ha,ha2⟩:=aA5 (n:=n) fun i hi=>h i (by omega)
  obtain ⟨b,hb,hb2⟩:=h n (by omega)
  refine ⟨a+b,by show f9 f n+f n=_;rw [ha,hb];push_cast;rfl,?_⟩
  have:=Int.natAbs_add_le a b
  rw [Nat.succ_mul];omega
theorem a4f:∀{n:Nat} {M:Nat->Nat->Rat} {B:Nat->Nat},(∀ i j,i<n->j<n->∃z:Int,M i j=((z:Int):Rat)∧z.natAbs<=B j)->∃z:Int,E8 n M=((z:Int):Rat)∧z.natAbs<=a6d n B
 |0,_,_,_=>⟨1,rfl,by simp [a6d]⟩
 |n+1,M,B,h=>by
  rw [K0]
  refine aA5 fun i hi=>?_
  obtain ⟨a,ha,ha2⟩:=aP2 i
  obtain ⟨b,hb,hb2⟩:=h i 0 hi (by omega)
  obtain ⟨c,hc,hc2⟩:=a4f (n:=n) (M:=v4 i M) (B:=fun c=>B (c+1)) fun r c hr hc=>by
   unfold v4
   split
   ·exact h _ _ (by omega) (by omega)
   ·exact h _ _ (by omega) (by omega)
  refine ⟨a*b*c,by rw [ha,hb,hc];push_cast;rfl,?_⟩
  rw [Int.natAbs_mul,Int.natAbs_mul,ha2,Nat.one_mul]
  exact Nat.mul_le_mul hb2 hc2
theorem a1l {f:Nat->Rat}:∀n:Nat,f9 f (n+1)=f 0+f9 (fun l=>f (l+1)) n
 |0=>by simp only [f9];grind
 |n+1=>by
  have ih:=a1l (f:=f) n
  have e:f9 f (n+1+1)=f9 f (n+1)+f (n+1):=rfl
  rw [e,ih]
  simp only [f9];grind
def a3r:Nat->Nat->Rat:=fun i j=>if i=j then 1 else 0
theorem aU4:∀n,E8 n a3r=1
 |0=>rfl
 |n+1=>by
  rw [K0,a1l (f:=fun i=>a8i i*a3r i 0*E8 n (v4 i a3r)),s6 fun i hi=>?_]
  ·have e:v4 0 a3r=a3r:=by
    funext a c;unfold v4 a3r
    simp
   rw [e,aU4 n]
   have:a8i 0=1:=rfl
   have h2:a3r 0 0=1:=rfl
   rw [this,h2];grind
  ·have:a3r (i+1) 0=0:=by unfold a3r;rw [if_neg (by omega)]
   rw [this];grind
section
def uV (n:Nat) (D0:Fd) (w:Nat):Nat->Rat
 |0=>if w<n then 0 else D0.V (w - n)
 |l+1=>if w<n then (if w=l then 1 else 0) else -(D0.A (w - n) l)
def uG (g0:Nat->Rat):Nat->Rat
 |0=>0
 |l+1=>g0 l
structure a16 (m n:Nat) (D:Fd):Prop where
 o:∀i,i<m->D.O i=n+i
 f:∀j,j<n->D.F j=j
def muF (n:Nat) (D0 D:Fd):Nat->Nat->Rat
 |0=>a3r 0
 |j+1=>uV n D0 (D.F j)
theorem b3N {m n:Nat} {D0:Fd} (h0:a16 m n D0) (l:Nat) (hl:l<n+1):Ids m n D0 (fun w=>uV n D0 w l) (a3r 0 l):=by
 intro i hi
 rw [h0.o i hi]
 rw [f6 (g:=fun j=>D0.A i j*uV n D0 j l) fun j hj=>by rw [h0.f j hj]]
 cases l with
 |zero=>
  rw [s6 fun j hj=>by show D0.A i j*(if j<n then (0:Rat) else _)=0;rw [if_pos hj];grind]
  show (if n+i<n then (0:Rat) else D0.V (n+i - n))=a3r 0 0*D0.V i - 0
  rw [if_neg (by omega),show n+i - n=i by omega]
  have:a3r 0 0=1:=rfl
  rw [this];grind
 |succ l=>
  rw [f6 (g:=fun j=>if j=l then D0.A i l else 0) fun j hj=>by
   show D0.A i j*(if j<n then (if j=l then (1:Rat) else 0) else _)=_
   rw [if_pos hj]
   by_cases h:j=l
   ·subst h;rw [if_pos rfl,if_pos rfl];grind
   ·rw [if_neg h,if_neg h];grind]
  rw [x9 (s:=l) (by omega),if_pos rfl,s6 fun j hj=>by
   by_cases h:j=l
   ·rw [if_pos h]
   ·rw [if_neg h,if_neg h]]
  show (if n+i<n then _ else -(D0.A (n+i - n) l))=a3r 0 (l+1)*D0.V i - _
  rw [if_neg (by omega),show n+i - n=i by omega]
  have:a3r 0 (l+1)=0:=rfl
  rw [this];grind
section
variable {m n:Nat} {D0 D:Fd}
def coV (D:Fd) (i:Nat):Nat->Rat
 |0=>D.V i
 |j+1=>-(D.A i j)
def coG (z:Rat) (D:Fd):Nat->Rat
 |0=>z
 |j+1=>D.G j
theorem aW9 (h0:a16 m n D0) (hI:∀y c,Ids m n D0 y c↔Ids m n D y c) {i:Nat} (hi:i<m):∀l,l<n+1->uV n D0 (D.O i) l=f9 (fun k=>coV D i k*muF n D0 D k l) (n+1):=by
 intro l hl
 have h:=(hI _ _).1 (b3N h0 l hl) i hi
 rw [h,a1l]
 show _=D.V i*a3r 0 l+f9 (fun j=>-(D.A i j)*uV n D0 (D.F j) l) n
 rw [f6 (f:=fun j=>-(D.A i j)*uV n D0 (D.F j) l) (g:=fun j=>(-1:Rat)*(D.A i j*uV n D0 (D.F j) l)) fun j hj=>by grind,z9]
 grind
theorem b5W (h0:a16 m n D0) (hI:∀y c,Ids m n D0 y c↔Ids m n D y c) {g0:Nat->Rat} {z:Rat} (hg:T3 n D g0 m z):∀l,l<n+1->uG g0 l=f9 (fun k=>coG z D k*muF n D0 D k l) (n+1):=by
 intro l hl
 have h:=hg _ _ ((hI _ _).1 (b3N h0 l hl))
 rw [a1l]
 show _=z*a3r 0 l+f9 (fun j=>D.G j*uV n D0 (D.F j) l) n
 have e:f9 (fun j=>g0 j*uV n D0 j l) n=uG g0 l:=by
  cases l with
  |zero=>rw [s6 fun j hj=>by show g0 j*(if j<n then (0:Rat) else _)=0;rw [if_pos hj];grind];rfl
  |succ l=>
   rw [f6 (g:=fun j=>if j=l then g0 l else 0) fun j hj=>by
    show g0 j*(if j<n then (if j=l then (1:Rat) else 0) else _)=_
    rw [if_pos hj]
    by_cases h:j=l
    ·subst h;rw [if_pos rfl,if_pos rfl];grind
    ·rw [if_neg h,if_neg h];grind]
   rw [x9 (s:=l) (by omega),if_pos rfl,s6 fun j hj=>by
    by_cases h:j=l
    ·rw [if_pos h]
    ·rw [if_neg h,if_neg h]]
   show _=g0 l
   grind
 rw [← e,h]
 grind
theorem b8O (h0:a16 m n D0) (hI:∀y c,Ids m n D0 y c↔Ids m n D y c) {i:Nat} (hi:i<m):E8 (n+1) (z7 (muF n D0 D) 0 (uV n D0 (D.O i)))=D.V i*E8 (n+1) (muF n D0 D):=a9l (aW9 h0 hI hi) (j:=0) (by omega)
theorem b6D (h0:a16 m n D0) (hI:∀y c,Ids m n D0 y c↔Ids m n D y c) {i j:Nat} (hi:i<m) (hj:j<n):E8 (n+1) (z7 (muF n D0 D) (j+1) (uV n D0 (D.O i)))=-(D.A i j)*E8 (n+1) (muF n D0 D):=a9l (aW9 h0 hI hi) (j:=j+1) (by omega)
theorem b9d (h0:a16 m n D0) (hI:∀y c,Ids m n D0 y c↔Ids m n D y c) {g0:Nat->Rat} {z:Rat} (hg:T3 n D g0 m z) {j:Nat} (hj:j<n):E8 (n+1) (z7 (muF n D0 D) (j+1) (uG g0))=D.G j*E8 (n+1) (muF n D0 D):=a9l (b5W h0 hI hg) (j:=j+1) (by omega)
theorem b0E (h0:a16 m n D0):E8 (n+1) (muF n D0 D0)=1:=by
 rw [← aU4 (n+1)]
 refine a18 fun i j hi hj=>?_
 cases i with
 |zero=>rfl
 |succ i=>
  show uV n D0 (D0.F i) j=_
  rw [h0.f i (by omega)]
  cases j with
  |zero=>show (if i<n then (0:Rat) else _)=_;rw [if_pos (by omega)];rfl
  |succ j=>
   show (if i<n then (if i=j then (1:Rat) else 0) else _)=_
   rw [if_pos (by omega)]
   unfold a3r
   by_cases h:i=j
   ·rw [if_pos h,if_pos (by omega)]
   ·rw [if_neg h,if_neg (by omega)]
theorem b1P (h0:a16 m n D0) (hI:∀y c,Ids m n D0 y c↔Ids m n D y c) {r s:Nat} (hr:r<m) (hs:s<n):E8 (n+1) (muF n D0 (D.exch r s))=-(D.A r s)*E8 (n+1) (muF n D0 D):=by
 rw [← b6D h0 hI hr hs]
 refine a18 fun i j hi hj=>?_
 cases i with
 |zero=>rfl
 |succ i=>
  show uV n D0 ((D.exch r s).F i) j=z7 (muF n D0 D) (s+1) (uV n D0 (D.O r)) (i+1) j
  rw [a0R]
  by_cases h:i=s
  ·subst h;rw [if_pos rfl,a04]
  ·rw [if_neg h,X3 (by omega)];rfl
end
theorem b30 {m n:Nat} {D0:Fd} {g0:Nat->Rat} (h0:a16 m n D0) (hv:a5m m n D0 g0 D0):∀{k:Nat} {D:Fd},itS m n k D0=some D->E8 (n+1) (muF n D0 D)≠0
 |0,D,h=>by injection h with h;subst h;rw [b0E h0];decide
 |k+1,D,h=>by
  rw [W6] at h
  cases hk:itS m n k D0 with
  |none=>rw [hk] at h;cases h
  |some D1=>
   rw [hk] at h
   have h:D3 m n D1=some D:=h
   obtain ⟨r,s,hs,rfl⟩:=a5q h
   obtain ⟨h1,h2,h3⟩:=a4M hs
   have hp:=a6y h3
   rw [b1P h0 (a2c hv hk).i h1 h2]
   intro e
   rcases Rat.mul_eq_zero.1 e with e|e
   ·exact hp (by grind)
   ·exact b30 h0 hv hk e
def b6o (K:Rat) (M:Nat->Nat->Rat):Nat->Nat->Rat:=fun i j=>if j=0 then K*M i 0 else M i j
theorem b4R (n:Nat) (K:Rat) (M:Nat->Nat->Rat):E8 (n+1) (b6o K M)=K*E8 (n+1) M:=by
 rw [K0,K0,←z9]
 refine f6 fun i hi=>?_
 have e:v4 i (b6o K M)=v4 i M:=by
  funext a c;unfold v4 b6o;rw [if_neg (by omega)]
 rw [e]
 show a8i i*(if (0:Nat)=0 then K*M i 0 else _)*_=_
 rw [if_pos rfl];grind
theorem ao9 {n:Nat} {M:Nat->Nat->Rat} {r:Nat} (hr:r<n) (h:∀c,c<n->M r c=0):E8 n M=0:=by
 have e:E8 n M=E8 n (z7 M r fun c=>(0:Rat)*0+0*0):=a18 fun i j hi hj=>by
  unfold z7
  by_cases hir:i=r
  ·subst hir;rw [if_pos rfl,h j hj];grind
  ·rw [if_neg hir]
 rw [e,a4H (v:=fun _=>0) (w:=fun _=>0) hr];grind
theorem aY9 {n:Nat} {M:Nat->Nat->Rat} (h1:M 0 0=1) (h0:∀c,c<n->M 0 (c+1)=0):E8 (n+1) M=E8 n (v4 0 M):=by
 rw [K0,a1l (f:=fun i=>a8i i*M i 0*E8 n (v4 i M)),s6 fun i hi=>?_]
 ·have:a8i 0=1:=rfl
  rw [this,h1];grind
 ·rw [ao9 (n:=n) (M:=v4 (i+1) M) (r:=0) (by omega) fun c hc=>by
   unfold v4;rw [if_pos (by omega)];exact h0 c hc]
  grind
structure aM9 (m n K BV BA BG:Nat) (D0:Fd) (g0:Nat->Rat):Prop where
 k:0<K
 v:∀i,i<m->∃z:Int,(K:Rat)*D0.V i=((z:Int):Rat)∧z.natAbs<=BV
 a:∀i j,i<m->j<n->∃z:Int,D0.A i j=((z:Int):Rat)∧z.natAbs<=BA
 g:∀j,j<n->∃z:Int,g0 j=((z:Int):Rat)∧z.natAbs<=BG
 a1:1<=BA
 ag:BA<=BG
theorem ap5 {m n K BV BA BG:Nat} {D0:Fd} {g0:Nat->Rat} (h:aM9 m n K BV BA BG D0 g0) {w l:Nat} (hw:w<n+m) (hl:l<n):∃z:Int,uV n D0 w (l+1)=((z:Int):Rat)∧z.natAbs<=BA:=by
 have:=h.a1
 show ∃z:Int,(if w<n then (if w=l then (1:Rat) else 0) else -(D0.A (w - n) l))=_∧_
 by_cases h1:w<n
 ·rw [if_pos h1]
  by_cases h2:w=l
  ·rw [if_pos h2];exact ⟨1,rfl,by simpa using this⟩
  ·rw [if_neg h2];exact ⟨0,rfl,by simp⟩
 ·rw [if_neg h1]
  obtain ⟨z,hz,hb⟩:=h.a (w - n) l (by omega) hl
  exact ⟨-z,by rw [hz];push_cast;rfl,by rw [Int.natAbs_neg];exact hb⟩
theorem b5X {m n K BV BA BG:Nat} {D0:Fd} {g0:Nat->Rat} (h:aM9 m n K BV BA BG D0 g0) {w:Nat} (hw:w<n+m):∃z:Int,(K:Rat)*uV n D0 w 0=((z:Int):Rat)∧z.natAbs<=BV:=by
 show ∃z:Int,(K:Rat)*(if w<n then (0:Rat) else D0.V (w - n))=_∧_
 by_cases h1:w<n
 ·rw [if_pos h1];exact ⟨0,by show _=(0:Rat);grind,by simp⟩
 ·rw [if_neg h1];exact h.v _ (by omega)
theorem b4J {m n K BV BA BG:Nat} {D0 D:Fd} {g0:Nat->Rat} (h:aM9 m n K BV BA BG D0 g0) (hf:∀j,j<n->D.F j<n+m):∃z:Int,E8 (n+1) (muF n D0 D)=((z:Int):Rat)∧z.natAbs<=a6d n fun _=>BA:=by
 rw [aY9 (M:=muF n D0 D) rfl fun c hc=>rfl]
 refine a4f fun i j hi hj=>?_
 unfold v4
 rw [if_neg (by omega)]
 exact ap5 h (hf i hi) hj
theorem aw1 {m n K BV BA BG:Nat} {D0 D:Fd} {g0:Nat->Rat} (h:aM9 m n K BV BA BG D0 g0) (hf:∀j,j<n->D.F j<n+m) {B:Nat} {u:Nat->Rat} (hB:BA<=B) (hu:∀l,l<n->∃z:Int,u (l+1)=((z:Int):Rat)∧z.natAbs<=B) (j:Nat):∃z:Int,E8 (n+1) (z7 (muF n D0 D) (j+1) u)=((z:Int):Rat)∧z.natAbs<=a6d n fun _=>B:=by
 rw [aY9 (M:=z7 (muF n D0 D) (j+1) u) (by rw [X3 (by omega)];rfl) fun c hc=>by rw [X3 (by omega)];rfl]
 refine a4f fun i k hi hk=>?_
 have em:v4 0 (z7 (muF n D0 D) (j+1) u) i k=z7 (muF n D0 D) (j+1) u (i+1) (k+1):=by unfold v4;rw [if_neg (by omega)]
 rw [em]
 by_cases e:i+1=j+1
 ·rw [e,a04];exact hu k hk
 ·rw [X3 e]
  obtain ⟨z,hz,hb⟩:=ap5 h (hf i hi) hk
  exact ⟨z,hz,by omega⟩
theorem b42 {m n K BV BA BG:Nat} {D0 D:Fd} {g0:Nat->Rat} (h:aM9 m n K BV BA BG D0 g0) (hf:∀j,j<n->D.F j<n+m) {w:Nat} (hw:w<n+m):∃z:Int,(K:Rat)*E8 (n+1) (z7 (muF n D0 D) 0 (uV n D0 w))=((z:Int):Rat)∧z.natAbs<=a6d (n+1) fun c=>if c=0 then BV else BA:=by
 rw [← b4R]
 refine a4f fun i j hi hj=>?_
 have key:∀w,w<n+m->∃z:Int,(if j=0 then (K:Rat)*uV n D0 w 0 else uV n D0 w j)=((z:Int):Rat)∧z.natAbs<=if j=0 then BV else BA:=fun w hw=>by
  by_cases h1:j=0
  ·rw [if_pos h1,if_pos h1];exact b5X h hw
  ·rw [if_neg h1,if_neg h1]
   obtain ⟨l,rfl⟩:∃l,j=l+1:=⟨j - 1,by omega⟩
   exact ap5 h hw (by omega)
 unfold b6o z7
 cases i with
 |zero=>simp only [if_true];exact key w hw
 |succ i=>
  simp only [if_neg (show i+1≠0 by omega)]
  exact key (D.F i) (hf i (by omega))
theorem a8l {x:Rat} {p q:Int} (hq:q≠0) (h:((q:Int):Rat)*x=((p:Int):Rat)):rl x<=max (bl p) (bl q):=by
 have hqn:((q:Int):Rat)≠0:=by intro e;exact hq (by exact_mod_cast e)
 have e:x=Rat.divInt p q:=by
  rw [Rat.divInt_eq_div,←h]
  rw [Rat.mul_comm,Rat.div_def,Rat.mul_assoc,Rat.mul_inv_cancel _ hqn];grind
 rw [e];exact N0 hq
theorem a5j {z:Int} {X k:Nat} (h:z.natAbs<=X) (hX:(X:Int)<pw k):bl z<=k:=L1 (by omega)
theorem aN0 {m n K BV BA BG b:Nat} {D0 D:Fd} {g0:Nat->Rat} (h0:a16 m n D0) (h:aM9 m n K BV BA BG D0 g0) (hv:a5m m n D0 g0 D0) (hD:T0 m n D0 D)
 (b1:((a6d (n+1) fun c=>if c=0 then BV else BA:Nat):Int)<pw b) (b2:((a6d n fun _=>BG:Nat):Int)<pw b) (b3:((K*a6d n fun _=>BA:Nat):Int)<pw b) (b4:((a6d n fun _=>BA:Nat):Int)<pw b):
 (∀ i,i<m->rl (D.V i)<=b)∧(∀ i j,i<m->j<n->rl (D.A i j)<=b)∧∀j,j<n->rl (D.G j)<=b:=by
 obtain ⟨k,hk⟩:=hD
 have hi:=a2c hv hk
 have hn:=b30 h0 hv hk
 obtain ⟨d,hd,hdb⟩:=b4J h (D:=D) hi.p.fb
 rw [hd] at hn
 have hd0:d≠0:=fun e=>hn (by rw [e];rfl)
 refine ⟨fun i him=>?_,fun i j him hj=>?_,fun j hj=>?_⟩
 ·obtain ⟨p,hp,hpb⟩:=b42 h (D:=D) hi.p.fb (hi.p.ob i him)
  rw [b8O h0 hi.i him,hd] at hp
  have hK:=h.k
  have e:=a8l (x:=D.V i) (p:=p) (q:=(K:Int)*d) (by
   intro e
   rcases Int.mul_eq_zero.1 e with e|e
   ·omega
   ·exact hd0 e) (by rw [← hp];push_cast;grind)
  have q1:=a5j hpb b1
  have q2:bl ((K:Int)*d)<=b:=a5j (X:=K*a6d n fun _=>BA) (by rw [Int.natAbs_mul];exact Nat.mul_le_mul (by simp) hdb) b3
  omega
 ·obtain ⟨p,hp,hpb⟩:=aw1 h (D:=D) hi.p.fb (Nat.le_refl _) (u:=uV n D0 (D.O i)) (fun l hl=>ap5 h (hi.p.ob i him) hl) j
  rw [b6D h0 hi.i him hj,hd] at hp
  have e:=a8l (x:=-(D.A i j)) (p:=p) (q:=d) hd0 (by rw [← hp];grind)
  rw [O9] at e
  have q1:=a5j hpb b4
  have q2:=a5j hdb b4
  omega
 ·obtain ⟨z,hz⟩:=hi.g
  obtain ⟨p,hp,hpb⟩:=aw1 h (D:=D) hi.p.fb h.ag (u:=uG g0) (fun l hl=>h.g l hl) j
  rw [b9d h0 hi.i hz hj,hd] at hp
  have e:=a8l (x:=D.G j) (p:=p) (q:=d) hd0 (by rw [← hp];grind)
  have q1:=a5j hpb b2
  have q2:=a5j hdb b4
  omega
end
def a9k (v:Rat):Prop:=∃z:Int,((1000:Nat):Rat)*v=((z:Int):Rat)∧z.natAbs<=2305843009213693952
def b1Q (w:B1):Prop:=A8 w.terms∧a9k w.value
theorem b1C {x:Int} (h0:-1000000000000000<=x) (h1:x<=1000000000000000):a9k ((x:Int):Rat):=⟨1000*x,by push_cast;rfl,by omega⟩
theorem a5n:a9k 0:=⟨0,by show _=(0:Rat);grind,by decide⟩
theorem b0w {x:Rat} (h:a9k x):a9k (-x):=by
 obtain ⟨z,h1,h2⟩:=h
 exact ⟨-z,by push_cast;rw [← h1];grind,by rw [Int.natAbs_neg];exact h2⟩
theorem b4i {cs:List G5} {rs:List z4} {scale reading day:Int} {lo hi:Rat} (h:H6 cs rs scale reading day=some (lo,hi)):a9k hi:=by
 unfold H6 at h
 split at h
 ·cases h
 ·rename_i i hi
  obtain ⟨hb,c,hc,_,hcv⟩:=I4 hi
  have e:a0n cs i=c:=by unfold a0n;rw [hc];rfl
  rw [e] at h
  split at h
  ·cases h
  ·split at h
   ·rename_i hr
    injection h with h
    injection h with h1 h2
    rw [← h2]
    unfold F9 J7 at hcv
    rw [S4] at hr
    simp only [Bool.and_eq_true,decide_eq_true_eq,S4] at hcv
    obtain ⟨⟨⟨⟨⟨⟨⟨h1,h2⟩,h3⟩,_⟩,h4⟩,h5⟩,h6⟩,h7⟩:=hcv
    have e1:0<=c.permille*reading:=Int.mul_nonneg (by omega) (by omega)
    have e2:c.permille*reading<=1000*1099511627776:=Int.mul_le_mul (by omega) (by omega) (by omega) (by omega)
    have e3:0<=c.drift*(day - c.since):=Int.mul_nonneg (by omega) (by omega)
    have e4:c.drift*(day - c.since)<=10000000*100000:=Int.mul_le_mul (by omega) (by omega) (by omega) (by omega)
    refine ⟨1000*reading+(c.permille*reading+1000*(c.grams+c.drift*(day - c.since))),?_,by omega⟩
    unfold a1I
    have e5:((1000:Nat):Rat)*Rat.divInt (c.permille*reading) 1000=((c.permille*reading:Int):Rat):=by
     rw [Rat.divInt_eq_div]
     have:((1000:Nat):Rat)=((1000:Int):Rat):=rfl
     rw [this]
     rw [Rat.div_def,←Rat.mul_assoc,Rat.mul_comm (((1000:Int):Rat)),Rat.mul_assoc,Rat.mul_inv_cancel _ (by decide)];grind
    have e6:((1000:Nat):Rat)*((reading:Rat)+(Rat.divInt (c.permille*reading) 1000+((c.grams+c.drift*(day - c.since):Int):Rat)))=((1000:Nat):Rat)*(reading:Rat)+(((1000:Nat):Rat)*Rat.divInt (c.permille*reading) 1000+((1000:Nat):Rat)*((c.grams+c.drift*(day - c.since):Int):Rat)):=by grind
    rw [e6,e5];push_cast;rfl
   ·cases h
theorem b8o {t:e7} {kind:Int} (ht:o9 t=0):∀w ∈ (N6 t kind).rows,b1Q w:=by
 classical
 obtain ⟨q1,q2,q3,q4,q5⟩:=p8 ht
 have key:(n8 t kind t.ev.moves.length).all (fun w=>decide (b1Q w))=true:=(a0j _ (Nat.le_refl _)).2 fun i x hi hx=>by
  rw [List.all_eq_true]
  intro w hw
  refine decide_eq_true ?_
  unfold K5 at hw
  rw [List.mem_append,List.mem_append,List.mem_append] at hw
  rcases hw with ((hw|hw)|hw)|hw
  ·split at hw
   ·cases hw
   ·simp at hw;subst hw
    exact ⟨a7y (a53 _) (V3 (by decide) (by decide)),a5n⟩
  ·unfold L4 at hw
   split at hw
   ·cases hw
   ·rename_i lo hi' hiv
    simp at hw;subst hw
    refine ⟨V3 (by decide) (by decide),?_⟩
    unfold C3 at hiv
    split at hiv
    ·cases hiv
    ·exact b4i hiv
  ·obtain ⟨g,hg,rfl⟩:=List.mem_map.1 hw
   unfold g7 at hg
   obtain ⟨f,hf',rfl⟩:=List.mem_map.1 hg
   have:=A0 q4 f (List.mem_filter.1 hf').1
   exact ⟨V3 (by decide) (by decide),b1C (by omega) (by omega)⟩
  ·rw [List.mem_replicate] at hw
   rw [hw.2]
   exact ⟨V3 (by decide) (by decide),a5n⟩
 intro w hw
 exact of_decide_eq_true (List.all_eq_true.1 key w hw)
theorem ab9 {c:Int} (h:bl c<=1):c.natAbs<=1048575:=by
 have h1:=K4 c.natAbs
 have h2:(dg c.natAbs).length<=1:=h
 have h3:pw (dg c.natAbs).length<=pw 1:=by
  have:(dg c.natAbs).length=0∨(dg c.natAbs).length=1:=by omega
  rcases this with h|h<;>rw [h]
  ·decide
  ·exact Int.le_refl _
 have h4:pw 1=1048576:=by decide
 omega
theorem b53 {b:Bool} {x:Rat} {c:Int} (h:x=((c:Int):Rat)):∃c':Int,Q8 b x=((c':Int):Rat)∧c'.natAbs=c.natAbs:=by
 cases b with
 |false=>exact ⟨c,h,rfl⟩
 |true=>exact ⟨-c,by show -x=_;rw [h];push_cast;rfl,Int.natAbs_neg c⟩
theorem b5k {s:f7} {g:List (Int × Rat)}:a16 (e8 s).length s.n.toNat (g4 s g):=⟨fun _ _=>rfl,fun _ _=>rfl⟩
theorem b0u {s:f7} {g:List (Int × Rat)} (hI:∀w ∈ s.rows,b1Q w) (hg:A8 g):aM9 (e8 s).length s.n.toNat 1000 2305843009213693952 1048575 1048575 (g4 s g) (fun j=>-(v7 g j)) where
 k:=by decide
 v:=fun i hi=>by
  obtain ⟨f,hf⟩:∃f,(e8 s)[i]? =some f:=⟨_,lg0 hi⟩
  obtain ⟨x,hx,_⟩:=T8.1 (lg2 hf)
  have h2:=(hI x (lg2 hx)).2
  have hfd:(e8 s).getD i (0,false)=f:=by rw [lg3,hf];rfl
  have eV:(g4 s g).V i=Q8 f.2 x.value:=by show a3g s ((e8 s).getD i (0,false))=_;rw [hfd];unfold a3g;rw [hx]
  rw [eV]
  cases f.2 with
  |false=>exact h2
  |true=>exact b0w h2
 a:=fun i j hi hj=>by
  obtain ⟨f,hf⟩:∃f,(e8 s)[i]? =some f:=⟨_,lg0 hi⟩
  obtain ⟨x,hx,_⟩:=T8.1 (lg2 hf)
  have h1:=(hI x (lg2 hx)).1
  have hfd:(e8 s).getD i (0,false)=f:=by rw [lg3,hf];rfl
  have eA:(g4 s g).A i j=Q8 f.2 (v7 x.terms j):=by show a1x s ((e8 s).getD i (0,false)) j=_;rw [hfd];unfold a1x;rw [hx]
  rw [eA]
  obtain ⟨c,hc,hb⟩:=a0N h1 x.terms.length j
  obtain ⟨c',hc',hb'⟩:=b53 (b:=f.2) (x:=v7 x.terms j) hc
  exact ⟨c',hc',by rw [hb'];exact ab9 hb⟩
 g:=fun j hj=>by
  obtain ⟨c,hc,hb⟩:=a0N hg g.length j
  exact ⟨-c,by rw [show v7 g j=((c:Int):Rat) from hc];push_cast;rfl,by rw [Int.natAbs_neg];exact ab9 hb⟩
 a1:=by decide
 ag:=by decide
theorem b0I:∀n,n<10->((a6d (n+1) fun c=>if c=0 then 2305843009213693952 else 1048575:Nat):Int)<pw 15∧((a6d n fun _=>1048575:Nat):Int)<pw 15∧((1000*a6d n fun _=>1048575:Nat):Int)<pw 15:=by decide +kernel
structure a0s (s:f7):Prop where
 r:i8 s=true
 i:∀w ∈ s.rows,b1Q w
 n:s.n<=9
 l:s.rows.length<=999
theorem b38 {s:f7} {g:List (Int × Rat)} (h:a0s s) (hg:A8 g):∀D,T0 (e8 s).length s.n.toNat (g4 s g) D->BdD (e8 s).length s.n.toNat 15 D:=by
 intro D hD
 have hn:=a0h h.r
 have:=h.n
 obtain ⟨p1,p2,p3⟩:=b0I s.n.toNat (by omega)
 obtain ⟨b1,b2,b3⟩:=aN0 b5k (b0u h.i hg) a1W hD p1 p2 p3 p2
 exact ⟨b1,fun i hi j hj=>b2 i j hi hj,b3⟩
theorem a5Y {v:Rat} (h:a9k v):rl v<=4:=by
 obtain ⟨z,h1,h2⟩:=h
 have:=a8l (x:=v) (p:=z) (q:=1000) (by decide) (by rw [← h1];rfl)
 have b1:bl z<=4:=a5j h2 (by decide)
 have b2:bl 1000<=4:=by have:=o5 (x:=1000) (by decide) (by decide);omega
 omega
theorem a5P {s:f7} {g:List (Int × Rat)} (h:a0s s) (hg:f8 (-1) ((s.n.toNat:Nat):Int) g=true) (hw:A8 g):G8 s g s.n.toNat 15:=by
 have hn:=a0h h.r
 have h9:=h.n
 have hl:=h.l
 have hwr:=M6 hw
 have rows:∀w ∈ s.rows,w.terms.length<=100∧(∀ t ∈ w.terms,rl t.2<=200)∧rl w.value<=200:=fun w hw=>by
  obtain ⟨i,hi,rfl⟩:=List.getElem_of_mem hw
  have hrt:=(W4 h.r (lg0 hi)).1
  have h1:=A7 hrt
  have h2:=h.i _ (List.getElem_mem hi)
  exact ⟨by omega,fun t ht=>by have:=M6 h2.1 t ht;omega,by have:=a5Y h2.2;omega⟩
 refine ⟨⟨h.r,hg,hn.symm,by omega,fun w hw=>?_,fun t ht=>by have:=hwr t ht;omega,by omega⟩,⟨by omega,rows⟩,fun t ht=>by have:=hwr t ht;omega,b38 h hw,by decide,?_,by omega⟩
 ·obtain ⟨a1,a2,a3⟩:=rows w hw
  exact ⟨by omega,fun t ht=>by have:=a2 t ht;omega⟩
 ·have:s.n.toNat<=9:=by omega
  have:=Nat.mul_le_mul_right (15+2) (show s.n.toNat+3<=12 by omega)
  omega
theorem b64 {s:f7} {g:List (Int × Rat)} (h:a0s s) (hg:f8 (-1) ((s.n.toNat:Nat):Int) g=true) (hw:A8 g):∀v ∈ x6 s g,rl v<=15:=b1A (a5P h hg hw)
theorem b6I {s:f7} {g:List (Int × Rat)} {n B c:Nat} (h:G8 s g n B) (hc:c<n) {j:Nat} (hj:j<n):rl (X7 (e8 s).length n (v8 s g) 0 (fun q=>if q=c then 1 else 0) j)<=B:=by
 have hb:=aa6 h
 have hB:=h.b1
 have hp:X8 (e8 s).length n (v8 s g):=by have hn:=h.nn;subst hn;exact P4.p
 rw [← aV9 hp hc hj]
 have key:∀k,k<=(e8 s).length->rl (ptK n (v8 s g).O (fun i=>-((v8 s g).A i c)) (fun j=>if (v8 s g).F c<n∧j=(v8 s g).F c then 1 else 0) k j)<=B:=by
  intro k
  induction k with
  |zero=>
   intro _
   have:=rl0;have:=rl1
   show rl (if _ then (1:Rat) else 0)<=_
   split<;>omega
  |succ k ih=>
   intro hk
   rw [P3]
   simp only
   split
   ·rw [O9];exact hb.a k (by omega) c hc
   ·exact ih (by omega)
 exact key _ (Nat.le_refl _)
theorem b08 {x y:List Rat} {A B:Nat} (hx:∀v ∈ x,rl v<=A) (hy:∀v ∈ y,rl v<=B):∀v ∈ V4 x y,rl v<=A+B+1:=by
 intro v hv
 unfold V4 at hv
 obtain ⟨i,hi,rfl⟩:=List.getElem_of_mem hv
 rw [List.getElem_zipWith]
 rw [List.length_zipWith] at hi
 have h1:=hx _ (List.getElem_mem (show i<x.length by omega))
 have h2:=hy _ (List.getElem_mem (show i<y.length by omega))
 have:=a3a x[i] y[i]
 omega
theorem b4g {s:f7} {g:List (Int × Rat)} (h:a0s s) (hg:f8 (-1) ((s.n.toNat:Nat):Int) g=true) (hw:A8 g):∀v ∈ O3 s g,rl v<=31:=by
 unfold O3
 split
 ·rename_i c hc
  refine b08 (A:=15) (B:=15) (b64 h rfl (fun t ht=>by cases ht)) fun v hv=>?_
  have hl:=a5P h (T9 hg) (Z1 hw)
  unfold a4O at hv
  obtain ⟨j,hj,rfl⟩:=a4w hv
  exact b6I hl (a6n hc).1 hj
 ·intro v hv
  have:=b64 h (T9 hg) (Z1 hw) v hv
  omega
theorem af9 {s:f7} {g:List (Int × Rat)}:(O3 s g).length=s.n.toNat:=by
 unfold O3
 split
 ·exact a15 (by unfold x6;rw [Q0]) (by unfold a4O;rw [Q0])
 ·unfold x6;rw [Q0]
set_option maxHeartbeats 2000000 in
theorem b4K (n:Nat) (a b:Nat->Rat) (h0:0<n) (hn:n<=1000) (ha:∀j,j<n->rl (a j)<=60000) (hb:∀j,j<n->rl (b j)<=60000):
 a9 Tryz.prog 197 [j8 (rF n a),j8 (rF n b)] [] (j8 (rF n fun j=>a j+b j)) []:=by
 have m1:((rF n b).map j5).length=n:=by simp [L9]
 have cl:=a71 (rF n a) (by rw [L9];exact h0) (by rw [L9];omega)
 rw [L9] at cl
 have e9:rF n (fun j=>a j+b j)=rF n (smF a b n):=u4 fun j hj=>by unfold smF;rw [if_pos hj]
 rw [e9]
 (refine ac Tryz.func197 ?_;(conv=>whnf);repeat (refine zy ?_;conv=>whnf))
 repeat' (first|refine zz ?_|refine .inr ⟨_,_,cl,?_⟩|refine zd ?_ ?_<;>intro h<;>try omega|refine zy ?_|fail)<;>conv=>whnf
 refine d6 c8 (fun k=>([J,J,J,J,J,S.c (C.own 0 0 n true),J,J,J,J,j8 (rF n b),a7 .i64 n,a7 .i64 k,J,J,J,J,J,J,J,J,J,J,J,J,J,J,J,J,J,J],[flB (rF n (smF a b k))])) n (fun _=>True) [some 0] trivial
  ⟨rfl,rfl,⟨a8 (rows:=(rF n a).map j5) rfl rfl rfl rfl (by rw [u4 (g:=smF a b 0) (h:=a) fun j hj=>by unfold smF;rw [if_neg (by omega)]]),trivial⟩,⟨⟨rfl,rfl,rfl,fun h=>h⟩,g9 rfl,c6 (by omega),c6 rfl,trivial⟩⟩ ?_
 intro k hk _
 by_cases hlt:k<n
 ·have eK:0+(k:Int).toNat=k:=by omega
  have ad:=a1P (a k) (b k) (ha k hlt) (hb k hlt)
  have gp:(rF n (smF a b k))[0+(k:Int).toNat]? =some (fz (a k)):=by rw [eK,B9 hlt];unfold smF;rw [if_neg (by omega)]
  have e:s8 (flB (rF n (smF a b k))) ((flB (rF n (smF a b k))).rows.set (0+(k:Int).toNat) (frC (fz (a k+b k))))=flB (rF n (smF a b (k+1))):=by
   rw [F0 eK,L2 hlt]
   refine congrArg flB (u4 fun j hj=>?_)
   unfold smF
   by_cases h:j=k
   ·subst h;rw [if_pos rfl,if_pos (by omega)]
   ·rw [if_neg h]
    have:(j<k)↔(j<k+1):=by omega
    simp only [this]
  conv=>whnf
  repeat' (first|refine zz ?_|refine qp ad ?_|refine qp 10 ?_|refine a49 rfl hlt ?_|refine j6 gp ?_|refine bl0 [10] ?_|refine zd ?_ ?_<;>intro h<;>try omega|refine zy ?_|fail)<;>conv=>whnf
  all_goals first
   |omega
   |exact ⟨hlt,trivial,[some 0],rfl,rfl,⟨⟨rfl,rfl,rfl,.inl ⟨congrArg Blk.rows e,(congrArg Blk.rows e) ▸ c7 _⟩⟩,trivial⟩,⟨⟨rfl,rfl,rfl,fun h=>h⟩,rfl,rfl,c6 (by omega),trivial⟩⟩
 ·have hke:k=n:=by omega
  subst hke
  conv=>whnf
  repeat' (first|refine zz ?_|refine zd ?_ ?_<;>intro h<;>try omega|refine zy ?_|fail)<;>conv=>whnf
  all_goals first
   |omega
   |exact Q3 rfl (fun h=>h) rfl rfl (by simp [L9])
theorem a06 (x:List Rat):x.map fz=rF x.length (fun j=>x.getD j 0):=by
 unfold rF
 refine List.ext_getElem? fun j=>?_
 rw [List.getElem?_map,List.getElem?_map]
 by_cases h:j<x.length
 ·rw [lg0 h,a4A h]
  simp [lg3,lg0 h]
 ·rw [List.getElem?_eq_none (by omega),List.getElem?_eq_none (by simp;omega)];rfl
theorem b2v (x y:List Rat) (h:x.length=y.length) (h0:0<x.length) (hn:x.length<=1000) (hx:∀v ∈ x,rl v<=60000) (hy:∀v ∈ y,rl v<=60000):
 a9 Tryz.prog 197 [j8 (x.map fz),j8 (y.map fz)] [] (j8 ((V4 x y).map fz)) []:=by
 have gx:∀(x:List Rat),(∀ v ∈ x,rl v<=60000)->∀j,j<x.length->rl (x.getD j 0)<=60000:=fun x hx j hj=>by
  rw [lg3,lg0 hj];exact hx _ (List.getElem_mem hj)
 have r:=b4K x.length (fun j=>x.getD j 0) (fun j=>y.getD j 0) h0 hn (gx x hx) (fun j hj=>gx y hy j (by omega))
 rw [← a06 x] at r
 rw [show rF x.length (fun j=>y.getD j 0)=y.map fz by rw [a06 y,h]] at r
 rw [show rF x.length (fun j=>x.getD j 0+y.getD j 0)=(V4 x y).map fz by
  rw [a06 (V4 x y),a15 (n:=x.length) rfl h.symm]
  exact u4 fun j hj=>(a4G (n:=x.length) rfl h.symm hj).symm] at r
 exact r
noncomputable def U8 (s:f7) (g:List (Int × Rat)):List Rat:=match a0o s (N9 g) with
 |.col _=>[]
 |_=>zOf s.rows.length (N8 s (v8 s (N9 g)))
set_option maxHeartbeats 4000000 in
theorem aP9 (s:f7) (g:List (Int × Rat)) (h:a0s s) (hz:a0o s []=.best) (h0:0<s.n) (hg:f8 (-1) ((s.n.toNat:Nat):Int) g=true) (hw:A8 g):
 a9 Tryz.prog 121 [a2i s,n9 g] [] (.tup [j8 ((O3 s g).map fz),j8 ((U8 s g).map fz)]) []:=by
 have hn:=a0h h.r
 have h9:=h.n
 have p:=a5P h (T9 hg) (Z1 hw)
 have i1:=G7 (-1) (by decide) (by decide)
 have tm:=b4H g ((-1:Int):Rat) (by decide) (a1y (by omega) hg) (fun t ht=>by have:=M6 hw t ht;omega) (by have:=o5 (x:=-1) (by decide) (by decide);have:=o5 (x:=1) (by decide) (by decide);show max (bl (-1)) (bl 1)<=200;omega)
 have ep:V9 g ((-1:Int):Rat)=N9 g:=rfl
 rw [ep] at tm
 have vb:∀k,rl (k7 ((N9 g).take k) (x6 s (N9 g)))<=50000:=fun k=>by
  have h1:=a6F (M6 (Z1 hw)) (b64 h (T9 hg) (Z1 hw)) k
  have h2:=A7 (T9 hg)
  have h3:(N9 g).length<=9:=by omega
  have h4:=Nat.mul_le_mul_right (15+4) h3
  omega
 rcases ar8 (g:=N9 g) h.r hz with ho|⟨c,ho⟩
 ·have le:=b7v p ho vb
  have e1:O3 s g=x6 s (N9 g):=by unfold O3;rw [ho]
  have e2:U8 s g=zOf s.rows.length (N8 s (v8 s (N9 g))):=by unfold U8;rw [ho]
  have e3:rF s.rows.length (N8 s (v8 s (N9 g)))=(U8 s g).map fz:=by rw [e2,aO8]
  have l3:(U8 s g).length=s.rows.length:=by rw [e2,Q0]
  rw [e1]
  rw [e3] at le
  (refine ac Tryz.func121 ?_;(conv=>whnf);repeat ((first|refine b0x ?_|refine zy ?_);conv=>whnf))
  repeat' (first|refine zz ?_|refine qp i1 ?_|refine qp tm ?_|refine qp 7 ?_|refine .inl ⟨_,_,le _,?_⟩|refine bl0 [7] ?_|refine zd ?_ ?_<;>intro h<;>try omega|refine zy ?_|fail)<;>conv=>whnf
  all_goals first
   |omega
   |exact k5 ⟨rfl,(show VC _ (fun id=>E1 [] id=true) (C.own _ 0 _ true) _ from t5 (k:=flB ((U8 s g).map fz)) rfl rfl (fun h=>h) rfl rfl (by simp [l3])),trivial⟩
 ·have hcn:c<s.n.toNat:=(a6n ho).1
  have pz:=a5P h (g:=[]) rfl (fun t ht=>by cases ht)
  have le:=b66 p pz ho hz
  have e1:O3 s g=V4 (x6 s []) (a4O s (N9 g) c):=by unfold O3;rw [ho]
  have e2:U8 s g=[]:=by unfold U8;rw [ho]
  have lp:(x6 s []).length=s.n.toNat:=by unfold x6;rw [Q0]
  have lr:(a4O s (N9 g) c).length=s.n.toNat:=by unfold a4O;rw [Q0]
  have pl:=b2v (x6 s []) (a4O s (N9 g) c) (by omega) (by omega) (by omega) (fun v hv=>by have:=b64 h rfl (fun t ht=>by cases ht) v hv;omega) (fun v hv=>by
   unfold a4O at hv
   obtain ⟨j,hj,rfl⟩:=a4w hv
   have:=b6I p hcn hj
   omega)
  rw [e1,e2]
  (refine ac Tryz.func121 ?_;(conv=>whnf);repeat ((first|refine b0x ?_|refine zy ?_);conv=>whnf))
  repeat' (first|refine zz ?_|refine qp i1 ?_|refine qp tm ?_|refine qp pl ?_|refine qp 7 ?_|refine .inl ⟨_,_,le _,?_⟩|refine bl0 [7] ?_|refine zd ?_ ?_<;>intro h<;>try omega|refine zy ?_|fail)<;>conv=>whnf
  all_goals first
   |omega
   |exact k5 ⟨rfl,rfl,trivial⟩
theorem a9K (g:List (Int × Rat)) (x:List Rat) (hg:f8 (-1) (x.length:Int) g=true) (hw:A8 g) (hx:∀v ∈ x,rl v<=40000) (hl:x.length<=9) (hb:∀k,rl (k7 (g.take k) x)<=50000):
 a9 Tryz.prog 123 [n9 g,j8 (x.map fz)] [] (f5 (a0X g x)) []:=by
 have hgl:=A7 hg
 have va:=aF6 g x (by omega) (fun t ht=>by have:=M6 hw t ht;omega) hx (fun k=>by have:=hb k;omega) (by omega) hg
 have bv:=hb g.length
 rw [lg4 (Nat.le_refl _)] at bv
 have sg:=a4y (k7 g x) (by omega)
 have sp:=a3Z (x:=k7 g x)
 have e:a0X g x=decide (sgR (k7 g x) > 0):=by unfold a0X;rw [decide_eq_decide];exact sp.symm
 rw [e]
 generalize sgR (k7 g x)=U at sg
 clear sp e
 (refine ac Tryz.func123 ?_;(conv=>whnf);repeat ((first|refine b0x ?_|refine zy ?_);conv=>whnf))
 repeat' (first|refine zz ?_|refine qp va ?_|refine qp sg ?_|refine qp 5 ?_|refine bl0 [5] ?_|refine zd ?_ ?_<;>intro h<;>try omega|refine zy ?_|fail)<;>conv=>whnf
 all_goals first
  |omega
  |(refine b9 ?_;first|exact (decide_eq_true (by omega)).symm|exact (decide_eq_false (by omega)).symm)
theorem a8y (x:Rat) (h:rl x<=60000):a9 Tryz.prog 270 [frS (fz x)] [] (frS (fz x)) []:=by
 have n1:=a2O x h
 have n2:=a2O (-x) (by rw [O9];exact h)
 rw [show - -x=x by grind] at n2
 (refine ac Tryz.func270 ?_;(conv=>whnf);repeat ((first|refine b0x ?_|refine zy ?_);conv=>whnf))
 repeat' (first|refine zz ?_|refine qp n1 ?_|refine qp n2 ?_|refine zd ?_ ?_<;>intro h<;>try omega|refine zy ?_|fail)<;>conv=>whnf
 all_goals exact aC6 rfl
theorem a6W (b:List (Int × Rat)):v6 [] b=b:=by rw [v6]
theorem aS2 (t:Int × Rat) (r:List (Int × Rat)):v6 (t::r) []=t::v6 r []:=by
 rw [v6]
 cases r with
 |nil=>rw [v6]
 |cons a r=>rw [v6]
theorem b28 {t u:Int × Rat} {r q:List (Int × Rat)} (h:t.1<u.1):v6 (t::r) (u::q)=t::v6 r (u::q):=by rw [v6,if_pos h]
theorem b3g {t u:Int × Rat} {r q:List (Int × Rat)} (h:u.1<t.1):v6 (t::r) (u::q)=u::v6 (t::r) q:=by rw [v6,if_neg (by omega),if_pos h]
theorem aM1 {t u:Int × Rat} {r q:List (Int × Rat)} (h:t.1=u.1) (h0:t.2+u.2=0):v6 (t::r) (u::q)=v6 r q:=by rw [v6,if_neg (by omega),if_neg (by omega),if_pos h0]
theorem b4h {t u:Int × Rat} {r q:List (Int × Rat)} (h:t.1=u.1) (h0:¬t.2+u.2=0):v6 (t::r) (u::q)=(t.1,t.2+u.2)::v6 r q:=by rw [v6,if_neg (by omega),if_neg (by omega),if_neg h0]
structure b8z (a b:List (Int × Rat)) (n:Nat) (x:List (Int × Rat) × List (Int × Rat) × List (Int × Rat)):Prop where
 e:x.1++v6 x.2.1 x.2.2=v6 a b
 o:x.1.length+x.2.1.length+x.2.2.length<=n
 a:∀t ∈ x.2.1,rl t.2<=200
 b:∀t ∈ x.2.2,rl t.2<=200
set_option maxHeartbeats 8000000 in
theorem b7S (a b:List (Int × Rat)) (ha:f8 (-1) 1500 a=true) (hb:f8 (-1) 1500 b=true) (ba:∀t ∈ a,rl t.2<=200) (bb:∀t ∈ b,rl t.2<=200):
 a9 Tryz.prog 221 [n9 a,n9 b] [] (n9 (v6 a b)) []:=by
 have la:=A7 ha
 have lb:=A7 hb
 have r1:=L5 a 1500 (by omega) ba
 have r2:=L5 b 1500 (by omega) bb
 rw [ha] at r1
 rw [hb] at r2
 (refine ac Tryz.func221 ?_;(conv=>whnf);repeat ((first|refine b0x ?_|refine zy ?_);conv=>whnf))
 repeat' (first|refine zz ?_|refine qp r1 ?_|refine qp r2 ?_|refine zd ?_ ?_<;>intro h<;>try omega|refine zy ?_|fail)<;>conv=>whnf
 all_goals try (exfalso;simp_all;done)
 refine k8 c8 (σ:=List (Int × Rat) × List (Int × Rat) × List (Int × Rat)) (fun x=>([n9 x.2.1,n9 x.2.2,J,J,J,S.c (C.own 0 0 x.1.length true),J,J,J,J,J,J,J,J,J,J,J,J,J,J,J,J,J,J,J,J,J,J,J,J,J,J,J,J,J,J,J,J,J,J,J,J,J,J,J,J,J,J,J,J,J,J,J,J,J,J,J,J,J,J,J,J,J,J,J,J,J,J,J,J,J,J,J,J,J,J,J,J,J,J,J,J,J,J,J,J,J,J,J,J,J,J,J,J,J,J,J,J,J,J,J,J,J,J,J,J,J,J,J,J,J,J,J,J,J,J,J,J],[O8 x.1])) (b8z a b 3000) (fun x=>x.2.1.length+x.2.2.length) ([],a,b) [none]
  ⟨rfl,by simp;omega,ba,bb⟩ ⟨rfl,rfl,⟨⟨rfl,rfl⟩,trivial⟩,⟨rfl,rfl,⟨rfl,rfl,rfl⟩,trivial⟩⟩ ?_
 rintro ⟨o,a',b'⟩ ⟨h1,h2,h3,h4⟩
 simp only at h1 h2 h3 h4
 rw [← h1]
 show a3L _ _ _ _ ([n9 a',n9 b',J,J,J,S.c (C.own 0 0 o.length true),J,J,J,J,J,J,J,J,J,J,J,J,J,J,J,J,J,J,J,J,J,J,J,J,J,J,J,J,J,J,J,J,J,J,J,J,J,J,J,J,J,J,J,J,J,J,J,J,J,J,J,J,J,J,J,J,J,J,J,J,J,J,J,J,J,J,J,J,J,J,J,J,J,J,J,J,J,J,J,J,J,J,J,J,J,J,J,J,J,J,J,J,J,J,J,J,J,J,J,J,J,J,J,J,J,J,J,J,J,J,J,J]) [O8 o] _
 have ma:(a'.map i9).length=a'.length:=by simp
 have mb:(b'.map i9).length=b'.length:=by simp
 have lA:o.length<=(O8 o).rows.length:=by show o.length<=(toC _).length;simp [toC]
 cases a' with
 |nil=>
  have na:([]:List (Int × Rat)).length=0:=rfl
  cases b' with
  |nil=>
   rw [a6W,List.append_nil]
   conv=>whnf
   repeat' (first|refine zz ?_|refine zd ?_ ?_<;>intro h<;>try omega|refine zy ?_|fail)<;>conv=>whnf
   all_goals first
    |omega
    |exact Q3 rfl (fun h=>h) rfl rfl (by simp)
  |cons u q=>
   have nb:(u::q).length=q.length+1:=rfl
   have bu:=h4 u (List.mem_cons_self ..)
   have fr:=a8y u.2 (by omega)
   conv=>whnf
   repeat' (first|refine zz ?_|refine qp fr ?_|refine qp 0 ?_|refine qp toC ?_|refine a3s (by omega) (by omega) (by omega) ?_|refine E6 (k:=0) rfl (show (u::q)[0]? =some u from rfl) ?_|refine o7 lA (by simp [toC];omega) ?_|refine zd ?_ ?_<;>intro h<;>try omega|refine zy ?_|fail)<;>conv=>whnf
   all_goals first
    |omega
    |exact ⟨[some 1],(o++[(u.1,u.2)],[],q),⟨rfl,rfl,⟨a8 (rows:=(o++[(u.1,u.2)]).map i9) rfl rfl rfl (y5 (f:=i9) (x:=(u.1,u.2)) rfl) rfl,trivial⟩,⟨rfl,g9 (aE2 u q),⟨rfl,rfl,by simp [toC],fun h=>h⟩,trivial⟩⟩,⟨by simp only [a6W];rw [← h1,a6W,List.append_assoc];try rfl,by simp only [List.length_append,List.length_cons,List.length_nil] at h2 ⊢;omega,h3,fun t ht=>h4 t (List.mem_cons_of_mem _ ht)⟩,by simp⟩
 |cons t r=>
  have na:(t::r).length=r.length+1:=rfl
  have bt:=h3 t (List.mem_cons_self ..)
  cases b' with
  |nil=>
   have nb:([]:List (Int × Rat)).length=0:=rfl
   have fr:=a8y t.2 (by omega)
   conv=>whnf
   repeat' (first|refine zz ?_|refine qp fr ?_|refine qp 0 ?_|refine qp toC ?_|refine a3s (by omega) (by omega) (by omega) ?_|refine E6 (k:=0) rfl (show (t::r)[0]? =some t from rfl) ?_|refine o7 lA (by simp [toC];omega) ?_|refine zd ?_ ?_<;>intro h<;>try omega|refine zy ?_|fail)<;>conv=>whnf
   all_goals first
    |omega
    |exact ⟨[some 1],(o++[(t.1,t.2)],r,[]),⟨rfl,rfl,⟨a8 (rows:=(o++[(t.1,t.2)]).map i9) rfl rfl rfl (y5 (f:=i9) (x:=(t.1,t.2)) rfl) rfl,trivial⟩,⟨g9 (aE2 t r),rfl,⟨rfl,rfl,by simp [toC],fun h=>h⟩,trivial⟩⟩,⟨by show _++v6 _ _=v6 a b;rw [← h1,aS2,List.append_assoc];rfl,by simp only [List.length_append,List.length_cons,List.length_nil] at h2 ⊢;omega,fun t ht=>h3 t (List.mem_cons_of_mem _ ht),h4⟩,by simp⟩
  |cons u q=>
   have nb:(u::q).length=q.length+1:=rfl
   have bu:=h4 u (List.mem_cons_self ..)
   rcases Int.lt_trichotomy t.1 u.1 with hlt|he|hgt
   ·have fr:=a8y t.2 (by omega)
    conv=>whnf
    repeat' (first|refine zz ?_|refine qp fr ?_|refine qp 0 ?_|refine qp 0 ?_|refine qp toC ?_|refine a3s (by omega) (by omega) (by omega) ?_|refine E6 (k:=0) rfl (show (t::r)[0]? =some t from rfl) ?_|refine E6 (k:=0) rfl (show (u::q)[0]? =some u from rfl) ?_|refine o7 lA (by simp [toC];omega) ?_|refine zd ?_ ?_<;>intro h<;>try omega|refine zy ?_|fail)<;>conv=>whnf
    all_goals first
     |omega
     |exact ⟨[some 1],(o++[(t.1,t.2)],r,u::q),⟨rfl,rfl,⟨a8 (rows:=(o++[(t.1,t.2)]).map i9) rfl rfl rfl (y5 (f:=i9) (x:=(t.1,t.2)) rfl) rfl,trivial⟩,⟨g9 (aE2 t r),rfl,⟨rfl,rfl,by simp [toC],fun h=>h⟩,trivial⟩⟩,⟨by show _++v6 _ _=v6 a b;rw [← h1,b28 hlt,List.append_assoc];rfl,by simp only [List.length_append,List.length_cons,List.length_nil] at h2 ⊢;omega,fun t ht=>h3 t (List.mem_cons_of_mem _ ht),h4⟩,by simp⟩
   ·have ad:=a1P t.2 u.2 (by omega) (by omega)
    have ab:=a3a t.2 u.2
    have sg:=a4y (t.2+u.2) (by omega)
    have sz:=a1X (x:=t.2+u.2)
    by_cases hz:t.2+u.2=0
    ·have hs:=sz.2 hz
     conv=>whnf
     repeat' (first|refine zz ?_|refine qp ad ?_|refine qp sg ?_|refine qp 0 ?_|refine qp 0 ?_|refine qp toC ?_|refine qp 11 ?_|refine a3s (by omega) (by omega) (by omega) ?_|refine E6 (k:=0) rfl (show (t::r)[0]? =some t from rfl) ?_|refine E6 (k:=0) rfl (show (u::q)[0]? =some u from rfl) ?_|refine o7 lA (by simp [toC];omega) ?_|refine bl0 [11] ?_|refine zd ?_ ?_<;>intro h<;>try omega|refine zy ?_|fail)<;>conv=>whnf
     all_goals first
      |omega
      |exact ⟨[some 0],(o,r,q),⟨rfl,rfl,⟨a8 (rows:=o.map i9) rfl rfl rfl rfl rfl,trivial⟩,⟨g9 (aE2 t r),g9 (aE2 u q),⟨rfl,rfl,rfl,fun h=>h⟩,trivial⟩⟩,⟨by show _++v6 _ _=v6 a b;rw [← h1,aM1 he hz],by simp only [List.length_append,List.length_cons,List.length_nil] at h2 ⊢;omega,fun t ht=>h3 t (List.mem_cons_of_mem _ ht),fun t ht=>h4 t (List.mem_cons_of_mem _ ht)⟩,by simp;omega⟩
    ·have hs:sgR (t.2+u.2)≠0:=fun h=>hz (sz.1 h)
     conv=>whnf
     repeat' (first|refine zz ?_|refine qp ad ?_|refine qp sg ?_|refine qp 0 ?_|refine qp 0 ?_|refine qp toC ?_|refine qp 11 ?_|refine a3s (by omega) (by omega) (by omega) ?_|refine E6 (k:=0) rfl (show (t::r)[0]? =some t from rfl) ?_|refine E6 (k:=0) rfl (show (u::q)[0]? =some u from rfl) ?_|refine o7 lA (by simp [toC];omega) ?_|refine bl0 [11] ?_|refine zd ?_ ?_<;>intro h<;>try omega|refine zy ?_|fail)<;>conv=>whnf
     all_goals first
      |omega
      |exact ⟨[some 2],(o++[(t.1,t.2+u.2)],r,q),⟨rfl,rfl,⟨a8 (rows:=(o++[(t.1,t.2+u.2)]).map i9) rfl rfl rfl (y5 (f:=i9) (x:=(t.1,t.2+u.2)) rfl) rfl,trivial⟩,⟨g9 (aE2 t r),g9 (aE2 u q),⟨rfl,rfl,by simp [toC],fun h=>h⟩,trivial⟩⟩,⟨by show _++v6 _ _=v6 a b;rw [← h1,b4h he hz,List.append_assoc];rfl,by simp only [List.length_append,List.length_cons,List.length_nil] at h2 ⊢;omega,fun t ht=>h3 t (List.mem_cons_of_mem _ ht),fun t ht=>h4 t (List.mem_cons_of_mem _ ht)⟩,by simp;omega⟩
   ·have fr:=a8y u.2 (by omega)
    conv=>whnf
    repeat' (first|refine zz ?_|refine qp fr ?_|refine qp 0 ?_|refine qp 0 ?_|refine qp toC ?_|refine a3s (by omega) (by omega) (by omega) ?_|refine E6 (k:=0) rfl (show (t::r)[0]? =some t from rfl) ?_|refine E6 (k:=0) rfl (show (u::q)[0]? =some u from rfl) ?_|refine o7 lA (by simp [toC];omega) ?_|refine zd ?_ ?_<;>intro h<;>try omega|refine zy ?_|fail)<;>conv=>whnf
    all_goals first
     |omega
     |exact ⟨[some 1],(o++[(u.1,u.2)],t::r,q),⟨rfl,rfl,⟨a8 (rows:=(o++[(u.1,u.2)]).map i9) rfl rfl rfl (y5 (f:=i9) (x:=(u.1,u.2)) rfl) rfl,trivial⟩,⟨rfl,g9 (aE2 u q),⟨rfl,rfl,by simp [toC],fun h=>h⟩,trivial⟩⟩,⟨by show _++v6 _ _=v6 a b;rw [← h1,b3g hgt,List.append_assoc];rfl,by simp only [List.length_append,List.length_cons,List.length_nil] at h2 ⊢;omega,h3,fun t ht=>h4 t (List.mem_cons_of_mem _ ht)⟩,by simp⟩
theorem am8 {ρ:List (Option Nat)} {H:Hp} {x y:C} (h:aD4 ρ H x y):∀{A:List (List T)},a39 ρ H (toC A++[[x]]) (toC A++[[y]])
 |[]=>⟨⟨h,trivial⟩,trivial⟩
 |a::A=>⟨K7 a,am8 h⟩
theorem ai0 {ρ:List (Option Nat)} {H:Hp} {id len:Nat} {app:Bool} {size:Nat} {k:Blk} {rows:List (List T)} (hn:E1 ρ id=true) (hk:H[id]? =some k) (hd:¬k.mode.gone) (hs:k.size=size) (hc:k.rows=toC rows) (hl:len=rows.length):
 aD4 ρ H (.own id 0 len app) (.t (.sl size .any rows)):=show VC H _ _ _ from t5 hn hk hd hs hc hl
def a3i (g:List (Int × Rat)):List T:=[a6I g]
abbrev b59 (l:List (List (Int × Rat))):T:=.sl 1 .any (l.map a3i)
abbrev a48 (l:List (List (Int × Rat))):S:=.c (.t (b59 l))
abbrev aa2 (l:List (List (Int × Rat))):Blk:={ mode:=.live,elem:=64,size:=1,rows:=toC (l.map a3i),box:=false }
def y0 (i:Nat):List (Int × Rat):=[((i:Int),((1:Int):Rat))]
def u3 (e:Ev) (p k:Nat):List (Int × Rat):=if m9 e p=0 then [] else i7 e p k
def E9 (e:Ev) (k p:Nat):List (List (Int × Rat)):=(List.range k).map y0++(List.range p).map fun p=>u3 e p e.moves.length
def G6 (e:Ev):List (List (Int × Rat)):=E9 e e.moves.length e.places.length
theorem a57 (e:Ev) (k p:Nat):(E9 e k p).length=k+p:=by simp [E9]
theorem b3s (e:Ev) (k:Nat):E9 e (k+1) 0=E9 e k 0++[y0 k]:=by simp [E9,List.range_succ]
theorem b1L (e:Ev) (k p:Nat):E9 e k (p+1)=E9 e k p++[u3 e p e.moves.length]:=by simp [E9,List.range_succ,List.append_assoc]
theorem a3d (e:Ev) (p:Nat):u3 e p 0=[]:=by unfold u3;split<;>rfl
theorem a68 {e:Ev} {p k:Nat} {m:p6} (h:e.moves[k]? =some m):u3 e p (k+1)=if m9 e p=0 then [] else if m.dst=p then u3 e p k++[((k:Int),((1:Int):Rat))] else if m.src=p then u3 e p k++[((k:Int),((-1:Int):Rat))] else u3 e p k:=by
 unfold u3
 by_cases h0:m9 e p=0
 ·rw [if_pos h0,if_pos h0]
 ·rw [if_neg h0,if_neg h0,if_neg h0]
  conv=>lhs;unfold i7
  rw [h]
theorem a7W (e:Ev) (p:Nat):∀k,(u3 e p k).length<=k
 |0=>by rw [a3d];simp
 |k+1=>by
  have ih:=a7W e p k
  cases hm:e.moves[k]? with
  |none=>
   have:u3 e p (k+1)=u3 e p k:=by
    unfold u3
    conv=>lhs;unfold i7
    rw [hm]
   rw [this];omega
  |some m=>
   rw [a68 hm]
   split
   ·simp
   ·split
    ·simp;omega
    ·split
     ·simp;omega
     ·omega
abbrev plB (p:C8):Blk:={ mode:=.live,elem:=77,size:=3,rows:=[p.row.map .t],box:=true }
set_option maxHeartbeats 8000000 in
theorem b5p (e:Ev) (hs:e.Sized) (hm:e.moves.length<=1000) (hp:e.places.length<=1000):a9 Tryz.prog 146 [evS e] [] (a48 (G6 e)) []:=by
 have m1:(e.moves.map p6.row).length=e.moves.length:=by simp
 have m2:(e.places.map C8.row).length=e.places.length:=by simp
 unfold G6
 (refine ac Tryz.func146 ?_;(conv=>whnf);repeat ((first|refine b0x ?_|refine zy ?_);conv=>whnf))
 repeat' (first|refine zz ?_|refine zd ?_ ?_<;>intro h<;>try omega|refine zy ?_|fail)<;>conv=>whnf
 refine d6 c8 (fun k=>([J,S.c (C.t (T.ptr (evT e))),J,S.c (C.own 0 0 k true),J,J,J,J,J,J,J,J,a7 .i64 e.moves.length,a7 .i64 k,J,J,J,J,J,J,J,J,J,J,J,J,J,J,J,J,J,J,J,J,J,J,J,J,J,J,J,J,J,J,J,J,J,J,J,J,J,J,J,J,J,J,J,J,J,J,J,J,J,J,J,J,J],[aa2 (E9 e k 0)])) e.moves.length (fun _=>True) [none] trivial
  ⟨rfl,rfl,⟨⟨rfl,rfl⟩,trivial⟩,⟨rfl,⟨rfl,rfl,rfl⟩,c6 (by simp),rfl,trivial⟩⟩ ?_
 intro k hk _
 have l1:=a57 e k 0
 by_cases hlt:k<e.moves.length
 ·have on:=a6Z k 1 (by decide) (by decide)
  have lA:k<=(aa2 (E9 e k 0)).rows.length:=by show _<=(toC _).length;simp [toC,l1]
  rw [b3s]
  conv=>whnf
  repeat' (first|refine zz ?_|refine qp on ?_|refine qp toC ?_|refine o7 lA (by simp [toC];omega) ?_|refine zd ?_ ?_<;>intro h<;>try omega|refine zy ?_|fail)<;>conv=>whnf
  all_goals first
   |omega
   |(refine ⟨hlt,trivial,[some 1],rfl,rfl,⟨a8 (rows:=(E9 e k 0++[y0 k]).map a3i) rfl rfl rfl ?_ rfl,trivial⟩,⟨rfl,⟨rfl,rfl,rfl,fun h=>h⟩,rfl,c6 (by omega),trivial⟩⟩
     exact y5 (f:=a3i) (x:=y0 k) (by omega))
 have hke:k=e.moves.length:=by omega
 subst hke
 conv=>whnf
 repeat' (first|refine zz ?_|refine zd ?_ ?_<;>intro h<;>try omega|refine zy ?_|fail)<;>conv=>whnf
 all_goals try omega
 refine d6 c8 (fun p=>([J,S.c (C.t (T.ptr (evT e))),J,S.c (C.own 0 0 (e.moves.length+p) true),J,J,J,J,J,J,J,J,J,J,J,J,J,J,J,J,J,J,J,S.c (C.t (a0D e.places)),a7 .i64 e.places.length,a7 .i64 p,J,J,J,J,J,J,J,J,J,J,J,J,J,J,J,J,J,J,J,J,J,J,J,J,J,J,J,J,J,J,J,J,J,J,J,J,J,J,J,J,J],[aa2 (E9 e e.moves.length p)])) e.places.length (fun _=>True) [some 0] trivial
  ⟨rfl,rfl,⟨a8 (rows:=(E9 e e.moves.length 0).map a3i) rfl rfl rfl rfl rfl,trivial⟩,⟨rfl,⟨rfl,rfl,rfl,fun h=>h⟩,rfl,c6 (by simp),rfl,trivial⟩⟩ ?_
 intro p hpl _
 have l2:=a57 e e.moves.length p
 by_cases hlt:p<e.places.length
 ·obtain ⟨pl,hpp⟩:∃pl,e.places[p]? =some pl:=⟨_,lg0 hlt⟩
  have hkp:m9 e p=pl.kind:=by unfold m9;simp [hpp]
  rw [b1L]
  conv=>whnf
  repeat' (first|refine zz ?_|refine b8 hpp ?_|refine zd ?_ ?_<;>intro h<;>try omega|refine zy ?_|fail)<;>conv=>whnf
  all_goals try omega
  refine d6 c8 (fun i=>([J,S.c (C.t (T.ptr (evT e))),J,S.c (C.own 0 0 (e.moves.length+p) true),J,a7 .i64 p,S.c (C.ptr 1 0 0),S.c (C.own 2 0 (u3 e p i).length true),J,J,J,J,J,J,J,J,J,J,J,J,J,J,J,S.c (C.t (a0D e.places)),a7 .i64 e.places.length,a7 .i64 p,J,J,J,J,J,S.c (C.t (a0J e.moves)),a7 .i64 e.moves.length,a7 .i64 i,J,J,J,J,J,J,J,J,J,J,J,J,J,J,J,J,J,J,J,J,J,J,J,J,J,J,J,J,J,J,J,J,J],[aa2 (E9 e e.moves.length p),plB pl,O8 (u3 e p i)])) e.moves.length (fun _=>True) [some 0,some 1,none] trivial
   ⟨rfl,rfl,⟨c9 (c7 _),c9 (c7 [pl.row]),⟨(by show (toC ((u3 e p 0).map i9))=[];rw [a3d];rfl),rfl⟩,trivial⟩,⟨rfl,⟨rfl,rfl,rfl,fun h=>h⟩,rfl,⟨rfl,rfl,rfl⟩,⟨rfl,rfl,by rw [a3d];rfl⟩,rfl,rfl,rfl,rfl,c6 (by simp),rfl,trivial⟩⟩ ?_
  intro i hi _
  have l3:=a7W e p i
  by_cases hil:i<e.moves.length
  ·obtain ⟨m,hmm⟩:∃m,e.moves[i]? =some m:=⟨_,lg0 hil⟩
   have on:=a6Z i 1 (by decide) (by decide)
   have on2:=a6Z i (-1) (by decide) (by decide)
   have lA:(u3 e p i).length<=(O8 (u3 e p i)).rows.length:=by show _<=(toC _).length;simp [toC]
   have eS:=a68 (p:=p) hmm
   rw [hkp] at eS
   by_cases h0:pl.kind=0
   ·have e0:∀k,u3 e p k=[]:=fun k=>by unfold u3;rw [hkp,if_pos h0]
    rw [e0,e0]
    conv=>whnf
    repeat' (first|refine zz ?_|refine b8 hmm ?_|refine zd ?_ ?_<;>intro h<;>try omega|refine zy ?_|fail)<;>conv=>whnf
    all_goals first
     |omega
     |exact ⟨hil,trivial,[some 0,some 1,some 2],rfl,rfl,⟨c9 (c7 _),c9 (c7 [pl.row]),c9 (c7 _),trivial⟩,⟨rfl,⟨rfl,rfl,rfl,fun h=>h⟩,rfl,⟨rfl,rfl,rfl⟩,⟨rfl,rfl,rfl,fun h=>h⟩,rfl,rfl,rfl,rfl,rfl,c6 (by omega),trivial⟩⟩
   rw [if_neg h0] at eS
   by_cases h1:m.dst=p
   ·rw [if_pos h1] at eS
    rw [eS]
    conv=>whnf
    repeat' (first|refine zz ?_|refine qp on ?_|refine qp toC ?_|refine b8 hmm ?_|refine o7 lA (by simp [toC];omega) ?_|refine zd ?_ ?_<;>intro h<;>try omega|refine zy ?_|fail)<;>conv=>whnf
    all_goals first
     |omega
     |(refine ⟨hil,trivial,[some 0,some 1,some 4],rfl,rfl,⟨c9 (c7 _),c9 (c7 [pl.row]),a8 (rows:=(u3 e p i++[((i:Int),((1:Int):Rat))]).map i9) rfl rfl rfl ?_ rfl,trivial⟩,⟨rfl,⟨rfl,rfl,rfl,fun h=>h⟩,rfl,⟨rfl,rfl,rfl⟩,⟨rfl,rfl,?_,fun h=>h⟩,rfl,rfl,rfl,rfl,rfl,c6 (by omega),trivial⟩⟩
       ·exact y5 (f:=i9) (x:=((i:Int),((1:Int):Rat))) rfl
       ·simp [toC])
   rw [if_neg h1] at eS
   by_cases h2:m.src=p
   ·rw [if_pos h2] at eS
    rw [eS]
    conv=>whnf
    repeat' (first|refine zz ?_|refine qp on2 ?_|refine qp toC ?_|refine b8 hmm ?_|refine o7 lA (by simp [toC];omega) ?_|refine zd ?_ ?_<;>intro h<;>try omega|refine zy ?_|fail)<;>conv=>whnf
    all_goals first
     |omega
     |(refine ⟨hil,trivial,[some 0,some 1,some 4],rfl,rfl,⟨c9 (c7 _),c9 (c7 [pl.row]),a8 (rows:=(u3 e p i++[((i:Int),((-1:Int):Rat))]).map i9) rfl rfl rfl ?_ rfl,trivial⟩,⟨rfl,⟨rfl,rfl,rfl,fun h=>h⟩,rfl,⟨rfl,rfl,rfl⟩,⟨rfl,rfl,?_,fun h=>h⟩,rfl,rfl,rfl,rfl,rfl,c6 (by omega),trivial⟩⟩
       ·exact y5 (f:=i9) (x:=((i:Int),((-1:Int):Rat))) rfl
       ·simp [toC])
   rw [if_neg h2] at eS
   rw [eS]
   conv=>whnf
   repeat' (first|refine zz ?_|refine b8 hmm ?_|refine zd ?_ ?_<;>intro h<;>try omega|refine zy ?_|fail)<;>conv=>whnf
   all_goals first
    |omega
    |exact ⟨hil,trivial,[some 0,some 1,some 2],rfl,rfl,⟨c9 (c7 _),c9 (c7 [pl.row]),c9 (c7 _),trivial⟩,⟨rfl,⟨rfl,rfl,rfl,fun h=>h⟩,rfl,⟨rfl,rfl,rfl⟩,⟨rfl,rfl,rfl,fun h=>h⟩,rfl,rfl,rfl,rfl,rfl,c6 (by omega),trivial⟩⟩
  ·have hie:i=e.moves.length:=by omega
   subst hie
   have lA:e.moves.length+p<=(aa2 (E9 e e.moves.length p)).rows.length:=by show _<=(toC _).length;simp [toC,l2]
   conv=>whnf
   repeat' (first|refine zz ?_|refine qp (toC,C4) ?_|refine a3n.own ?_|refine ⟨Nat.le_refl _,?_⟩|refine o7 lA (by simp [toC,C4];omega) ?_|refine zd ?_ ?_<;>intro h<;>try omega|refine zy ?_|fail)<;>conv=>whnf
   all_goals first
    |omega
    |(refine ⟨hlt,trivial,[some 4],rfl,rfl,⟨⟨rfl,rfl,rfl,.inr ?_⟩,trivial⟩,⟨rfl,⟨rfl,rfl,rfl,fun h=>h⟩,rfl,rfl,c6 (by omega),trivial⟩⟩
      show a39 [some 4] _ (List.take (e.moves.length+p) (toC ((E9 e e.moves.length p).map a3i))++[[C.own 2 0 (u3 e p e.moves.length).length true]]) (toC ((E9 e e.moves.length p++[u3 e p e.moves.length]).map a3i))
      rw [lg4 (by simp [toC,l2]),show toC ((E9 e e.moves.length p++[u3 e p e.moves.length]).map a3i)=toC ((E9 e e.moves.length p).map a3i)++[[C.t (a6I (u3 e p e.moves.length))]] by simp [toC,a3i]]
      refine am8 ?_
      exact ai0 (k:=O8 (u3 e p e.moves.length)) rfl rfl (by intro h;cases h) rfl rfl (by rw [List.length_map]))
 ·have hpe:p=e.places.length:=by omega
  subst hpe
  conv=>whnf
  repeat' (first|refine zz ?_|refine zd ?_ ?_<;>intro h<;>try omega|refine zy ?_|fail)<;>conv=>whnf
  all_goals first
   |omega
   |exact Q3 rfl (fun h=>h) rfl rfl (by simp [l2])
structure a6O (s:f7) (gL:List (List (Int × Rat))):Prop where
 p:a0T s gL
 sm:a0s s
 pos:0<s.n
 w:∀g ∈ gL,Y5 1 g
 l:gL.length<=30
theorem a6f {B:Nat} {g:List (Int × Rat)} (h:Y5 B g) (hB:B<=1048575):A8 g:=fun t ht=>by
 obtain ⟨c,h1,h2⟩:=h t ht
 exact ⟨c,h1,o5 (by omega) (by omega)⟩
theorem a6q {s:f7} {gL:List (List (Int × Rat))} (h:a6O s gL) (out:List Bool):∀k,k<=gL.length->Y5 k (K2 gL out k)
 |0,_=>fun t ht=>by cases ht
 |k+1,hk=>by
  have ih:=a6q h out k (by omega)
  unfold K2
  split
  ·intro t ht;obtain ⟨c,h1,h2⟩:=ih t ht;exact ⟨c,h1,by omega⟩
  ·exact aS7 _ (Nat.le_refl _) ih (h.w _ (N3 (by omega)))
theorem a8G {s:f7} {gL:List (List (Int × Rat))} (h:a6O s gL) (out:List Bool) (k:Nat) (hk:k<=gL.length):A8 (K2 gL out k):=a6f (a6q h out k hk) (by have:=h.l;omega)
theorem aq1 {s:f7} {gL:List (List (Int × Rat))} (h:a6O s gL) (out:List Bool):∀v ∈ a0f s gL out,rl v<=31:=b4g h.sm (Y4 h.p out _ (Nat.le_refl _)) (a8G h out _ (Nat.le_refl _))
theorem a9i {s:f7} {gL:List (List (Int × Rat))} {out:List Bool}:(a0f s gL out).length=s.n.toNat:=af9
theorem a6v {s:f7} {gL:List (List (Int × Rat))}:∀k,(W2 s gL k).length=s.n.toNat
 |0=>a9i
 |k+1=>a15 (a6v k) a9i
theorem a8x {s:f7} {gL:List (List (Int × Rat))} (h:a6O s gL) (k:Nat):∀v ∈ W2 s gL k,rl v<=(k+1)*32:=by
 induction k with
 |zero=>
  intro v hv
  have hv:v ∈ a0f s gL (t6 s gL 0):=hv
  exact Nat.le_trans (aq1 h (t6 s gL 0) v hv) (by decide)
 |succ k ih=>
  have hf:=aq1 h (t6 s gL (k+1))
  intro v hv
  have hv:v ∈ V4 (W2 s gL k) (a0f s gL (t6 s gL (k+1))):=hv
  generalize W2 s gL k=X at ih hv
  generalize a0f s gL (t6 s gL (k+1))=Y at hf hv
  have h1:=b08 ih hf v hv
  have e:(k+1+1)*32=(k+1)*32+32:=Nat.succ_mul _ _
  rw [e];exact h1
def a1v (b:Bool):List T:=[tb b]
abbrev a6A (l:List Bool):T:=.sl 1 .any (l.map a1v)
abbrev b7y (l:List Bool):S:=.c (.t (a6A l))
abbrev W1 (l:List Bool):Blk:={ mode:=.live,elem:=4,size:=1,rows:=toC (l.map a1v),box:=false }
def a2B (gL:List (List (Int × Rat))) (out:List Bool) (x:List Rat) (i:Nat):List Bool:=(List.range gL.length).map fun j=>if j<i then (out.getD j false || a0X (gL.getD j []) x) else out.getD j false
def a46 (gL:List (List (Int × Rat))) (out:List Bool) (x:List Rat) (i:Nat):Bool:=(List.range i).any fun j=>!out.getD j false && a0X (gL.getD j []) x
theorem a6i (gL:List (List (Int × Rat))) (out:List Bool) (x:List Rat) (i:Nat):(a2B gL out x i).length=gL.length:=by simp [a2B]
theorem b11 {gL:List (List (Int × Rat))} {out:List Bool} {x:List Rat} (h:out.length=gL.length):a2B gL out x 0=out:=by
 refine List.ext_getElem (by rw [a6i,h]) fun i h1 h2=>?_
 simp [a2B,lg3,lg0 h2]
theorem b41 {gL:List (List (Int × Rat))} {out:List Bool} {x:List Rat} {i:Nat} (h:i<gL.length):(a2B gL out x i)[i]? =some (out.getD i false):=by
 unfold a2B;rw [List.getElem?_map,a4A h];simp
theorem ax6 (s:f7) (gL:List (List (Int × Rat))) (k:Nat):a2B gL (t6 s gL k) (a0f s gL (t6 s gL k)) gL.length=t6 s gL (k+1):=by
 show _=am5 s gL (t6 s gL k)
 unfold a2B am5
 exact List.map_congr_left fun j hj=>by rw [if_pos (List.mem_range.1 hj)]
theorem b2K {gL:List (List (Int × Rat))} {out:List Bool} {x:List Rat} {i:Nat} (h:i<gL.length) (hp:a0X (gL.getD i []) x=true):(a2B gL out x i).set i true=a2B gL out x (i+1):=by
 refine List.ext_getElem? fun j=>?_
 rw [List.getElem?_set]
 by_cases hj:j<gL.length
 ·unfold a2B
  rw [List.getElem?_map,List.getElem?_map,a4A hj,List.length_map,List.length_range]
  by_cases hij:i=j
  ·subst hij;rw [if_pos rfl,if_pos h]
   show some true=some (if i<i+1 then (out.getD i false || a0X (gL.getD i []) x) else out.getD i false)
   rw [if_pos (show i<i+1 by omega),hp,Bool.or_true]
  ·rw [if_neg hij]
   show some (if j<i then (out.getD j false || a0X (gL.getD j []) x) else out.getD j false)=some (if j<i+1 then (out.getD j false || a0X (gL.getD j []) x) else out.getD j false)
   by_cases hji:j<i
   ·rw [if_pos hji,if_pos (by omega)]
   ·rw [if_neg hji,if_neg (by omega)]
 ·rw [List.getElem?_eq_none (by rw [a6i];omega),List.getElem?_eq_none (by rw [a6i];omega),a6i]
  by_cases hij:i=j
  ·subst hij;omega
  ·rw [if_neg hij]
theorem ag7 {gL:List (List (Int × Rat))} {out:List Bool} {x:List Rat} {i:Nat} (h:out.getD i false=true∨a0X (gL.getD i []) x=false):a2B gL out x (i+1)=a2B gL out x i:=by
 unfold a2B
 refine List.map_congr_left fun j hj=>?_
 by_cases hij:j=i
 ·subst hij
  rw [if_pos (by omega),if_neg (by omega)]
  rcases h with h|h
  ·rw [h];rfl
  ·rw [h,Bool.or_false]
 ·by_cases hji:j<i
  ·rw [if_pos hji,if_pos (by omega)]
  ·rw [if_neg hji,if_neg (by omega)]
theorem aK8 (gL:List (List (Int × Rat))) (out:List Bool) (x:List Rat) (i:Nat):a46 gL out x (i+1)=(a46 gL out x i || (!out.getD i false && a0X (gL.getD i []) x)):=by
 unfold a46;rw [List.range_succ,List.any_append];simp
theorem ai4 {s:f7} {gL:List (List (Int × Rat))} {k:Nat}:a46 gL (t6 s gL k) (a0f s gL (t6 s gL k)) gL.length=false↔t6 s gL (k+1)=t6 s gL k:=by
 unfold a46
 rw [List.any_eq_false]
 constructor
 ·intro h
  refine a4U (by rw [M8,M8]) fun i hi=>?_
  rw [M8] at hi
  rw [a1k hi]
  have:=h i (List.mem_range.2 hi)
  cases ho:(t6 s gL k).getD i false with
  |true=>rfl
  |false=>
   rw [ho] at this
   cases hp:a0X (gL.getD i []) (a0f s gL (t6 s gL k)) with
   |false=>rfl
   |true=>rw [hp] at this;exact absurd rfl this
 ·intro h i hi
  have hi:=List.mem_range.1 hi
  have:=a1k (s:=s) (k:=k) hi
  rw [h] at this
  cases ho:(t6 s gL k).getD i false with
  |true=>simp
  |false=>
   rw [ho,Bool.false_or] at this
   rw [← this];simp
theorem aG5 {l:List Bool} {i n:Nat} (h:n=i):s8 (W1 l) ((W1 l).rows.set n [C.t (tb true)])=W1 (l.set i true):=by
 subst h
 unfold s8
 simp [toC,List.map_set,a1v]
noncomputable def aI6 (s:f7) (gL:List (List (Int × Rat))):Nat->T
 |0=>.sl 0 .nil []
 |k+1=>B4 ((W2 s gL k).map fz)
def scF (a:Nat->Rat) (c:Rat) (k:Nat):Nat->Rat:=fun j=>if j<k then a j*c else a j
theorem b3A (x y:List Rat) (h:x.length=y.length) (h0:0<x.length) (hn:x.length<=1000) (hx:∀v ∈ x,rl v<=60000) (hy:∀v ∈ y,rl v<=60000):
 a9 Tryz.prog 197 [j8 (x.map fz),j8 (y.map fz)] [] (.c (.own 0 0 x.length true)) [flB ((V4 x y).map fz)]:=by
 obtain ⟨n,hnx⟩:∃n,x.length=n:=⟨_,rfl⟩
 have gx:∀(x:List Rat),(∀ v ∈ x,rl v<=60000)->∀j,j<x.length->rl (x.getD j 0)<=60000:=fun x hx j hj=>by
  rw [lg3,lg0 hj];exact hx _ (List.getElem_mem hj)
 have ha:=gx x hx
 have hb:=gx y hy
 rw [a06 x,a06 y,a06 (V4 x y),a15 (n:=x.length) rfl h.symm,←h,hnx]
 rw [hnx] at ha h0 hn
 rw [← h,hnx] at hb
 have hs:∀j,j<n->(V4 x y).getD j 0=x.getD j 0+y.getD j 0:=fun j hj=>a4G (n:=n) hnx (by omega) hj
 have e0:rF n (fun j=>(V4 x y).getD j 0)=rF n (smF (fun j=>x.getD j 0) (fun j=>y.getD j 0) n):=u4 fun j hj=>by unfold smF;rw [if_pos hj];exact hs j hj
 rw [e0]
 have ha:∀j,j<n->rl ((fun j=>x.getD j 0) j)<=60000:=ha
 have hb:∀j,j<n->rl ((fun j=>y.getD j 0) j)<=60000:=hb
 generalize (fun j=>x.getD j 0)=a at ha ⊢
 generalize (fun j=>y.getD j 0)=b at hb ⊢
 have m1:((rF n b).map j5).length=n:=by simp [L9]
 have cl:=a71 (rF n a) (by rw [L9];exact h0) (by rw [L9];omega)
 rw [L9] at cl
 (refine ac Tryz.func197 ?_;(conv=>whnf);repeat (refine zy ?_;conv=>whnf))
 repeat' (first|refine zz ?_|refine .inr ⟨_,_,cl,?_⟩|refine zd ?_ ?_<;>intro h<;>try omega|refine zy ?_|fail)<;>conv=>whnf
 refine d6 c8 (fun k=>([J,J,J,J,J,S.c (C.own 0 0 n true),J,J,J,J,j8 (rF n b),a7 .i64 n,a7 .i64 k,J,J,J,J,J,J,J,J,J,J,J,J,J,J,J,J,J,J],[flB (rF n (smF a b k))])) n (fun _=>True) [some 0] trivial
  ⟨rfl,rfl,⟨a8 (rows:=(rF n a).map j5) rfl rfl rfl rfl (by rw [u4 (g:=smF a b 0) (h:=a) fun j hj=>by unfold smF;rw [if_neg (by omega)]]),trivial⟩,⟨⟨rfl,rfl,rfl,fun h=>h⟩,g9 rfl,c6 (by omega),c6 rfl,trivial⟩⟩ ?_
 intro k hk _
 by_cases hlt:k<n
 ·have eK:0+(k:Int).toNat=k:=by omega
  have ad:=a1P (a k) (b k) (ha k hlt) (hb k hlt)
  have gp:(rF n (smF a b k))[0+(k:Int).toNat]? =some (fz (a k)):=by rw [eK,B9 hlt];unfold smF;rw [if_neg (by omega)]
  have e:s8 (flB (rF n (smF a b k))) ((flB (rF n (smF a b k))).rows.set (0+(k:Int).toNat) (frC (fz (a k+b k))))=flB (rF n (smF a b (k+1))):=by
   rw [F0 eK,L2 hlt]
   refine congrArg flB (u4 fun j hj=>?_)
   unfold smF
   by_cases h:j=k
   ·subst h;rw [if_pos rfl,if_pos (by omega)]
   ·rw [if_neg h]
    have:(j<k)↔(j<k+1):=by omega
    simp only [this]
  conv=>whnf
  repeat' (first|refine zz ?_|refine qp ad ?_|refine qp 10 ?_|refine a49 rfl hlt ?_|refine j6 gp ?_|refine bl0 [10] ?_|refine zd ?_ ?_<;>intro h<;>try omega|refine zy ?_|fail)<;>conv=>whnf
  all_goals first
   |omega
   |exact ⟨hlt,trivial,[some 0],rfl,rfl,⟨⟨rfl,rfl,rfl,.inl ⟨congrArg Blk.rows e,(congrArg Blk.rows e) ▸ c7 _⟩⟩,trivial⟩,⟨⟨rfl,rfl,rfl,fun h=>h⟩,rfl,rfl,c6 (by omega),trivial⟩⟩
 ·have hke:k=n:=by omega
  subst hke
  conv=>whnf
  repeat' (first|refine zz ?_|refine zd ?_ ?_<;>intro h<;>try omega|refine zy ?_|fail)<;>conv=>whnf
  all_goals first
   |omega
   |exact ⟨[some 0],rfl,rfl,⟨c9 (c7 _),trivial⟩,⟨rfl,rfl,rfl,fun h=>h⟩⟩
theorem aA9 {out:List Bool} {j:Nat} {b:Bool} {K:List C->Prop} (h:out[j]? =some b) (k:K [C.t (tb b)]):∃row,(W1 out).rows[j]? =some row∧K row:=⟨_,by show (toC (out.map a1v))[j]? =_;simp [toC,a1v,h],k⟩
theorem aG7 {O:Blk} {y:List Rat} {n:Nat} (hl:y.length=n):a3E [some 0] [O,flB (y.map fz)] (.c (.own [O].length 0 n true)) (.c (.t (B4 (y.map fz)))):=by
 show aD4 [some 0] [O,flB (y.map fz)] (.own 1 0 n true) (.t (.sl 4 .any ((y.map fz).map j5)))
 refine ai0 (k:=flB (y.map fz)) (app:=true) rfl rfl ?_ rfl rfl ?_
 ·intro h;cases h
 ·rw [List.length_map,List.length_map,hl]
set_option maxHeartbeats 16000000 in
theorem b1t (s:f7) (gL:List (List (Int × Rat))) (h:a6O s gL):
 a9 Tryz.prog 147 [a2i s,a48 gL] [] (.tup [b7y (isF s gL),j8 ((a9o s gL).map fz)]) []:=by
 have hG:=h
 have hL:=h.l
 have h9:=h.sm.n
 have hpos:=h.pos
 have hn:=a0h h.sm.r
 obtain ⟨n,hnn⟩:∃n,s.n.toNat=n:=⟨_,rfl⟩
 have m1:(gL.map a3i).length=gL.length:=by simp
 have cl:∀x:List Rat,x.length=n->a9 Tryz.prog 205 [j8 (x.map fz)] [] (.c (.own 0 0 n true)) [flB (x.map fz)]:=fun x hx=>by
  have:=a71 (x.map fz) (by rw [List.length_map];omega) (by rw [List.length_map];omega)
  rwa [List.length_map,hx] at this
 have eR:List.replicate (((gL.map a3i).length:Nat):Int).toNat [A9 (Value.bool false)]=toC ((t6 s gL 0).map a1v):=by
  rw [Int.toNat_natCast,m1]
  show _=toC ((List.replicate gL.length false).map a1v)
  simp [toC,a1v]
  exact .inr rfl
 (refine ac Tryz.func147 ?_;(conv=>whnf);repeat ((first|refine b0x ?_|refine zy ?_);conv=>whnf))
 repeat' (first|refine zz ?_|refine a2q (by omega) (by omega) (by omega) (by decide) ?_|refine zd ?_ ?_<;>intro h<;>try omega|refine zy ?_|fail)<;>conv=>whnf
 refine d6 c8 (fun k=>([J,a48 gL,S.c (C.t (T.ptr [ti s.n,M3 s.rows])),J,J,J,S.c (C.own 0 0 gL.length true),S.c (C.t (aI6 s gL k)),a7 .i64 k,J,J,J,J,J,J,J,J,J,J,J,J,J,J,J,J,J,J,J,J,J,J,J,J,J,J,J,J,J,J,J,J,J,J,J,J,J,J,J,J,J,J,J,J,J,J,J,J,J,J,J,J,J,J,J,J,J,J,J,J,J,J,J,J,J,J,J,J,J,J,J,J,J,J,J,J,J,J,J,J,J,J,J,J,J,J,J,J,J,J,J,J,J,J],[W1 (t6 s gL k)])) (gL.length+1) (fun k=>∀j,j<k->t6 s gL (j+1)≠t6 s gL j) [some 0] (fun j hj=>by omega)
  ⟨rfl,rfl,⟨⟨rfl,rfl,rfl,.inl ⟨eR,eR ▸ c7 _⟩⟩,trivial⟩,⟨rfl,rfl,⟨rfl,rfl,by omega,fun h=>h⟩,rfl,rfl,trivial⟩⟩ ?_
 intro k hk hI
 have hkl:=a43 hI
 have olen:=M8 s gL k
 generalize hout:t6 s gL k=out at olen
 conv=>whnf
 repeat' (first|refine zz ?_|refine zd ?_ ?_<;>intro h<;>try omega|refine zy ?_|fail)<;>conv=>whnf
 refine d6 c8 (fun i=>([J,a48 gL,S.c (C.t (T.ptr [ti s.n,M3 s.rows])),J,J,J,S.c (C.own 0 0 gL.length true),S.c (C.t (aI6 s gL k)),a7 .i64 k,n9 (K2 gL out i),J,J,J,J,J,J,J,J,J,J,J,J,J,J,J,J,a48 gL,a7 .i64 gL.length,a7 .i64 i,J,J,J,J,J,J,J,J,J,J,J,J,J,J,J,J,J,J,J,J,J,J,J,J,J,J,J,J,J,J,J,J,J,J,J,J,J,J,J,J,J,J,J,J,J,J,J,J,J,J,J,J,J,J,J,J,J,J,J,J,J,J,J,J,J,J,J,J,J,J,J,J,J,J],[W1 out])) gL.length (fun _=>True) [some 0] trivial
  ⟨rfl,rfl,⟨c9 (c7 _),trivial⟩,⟨rfl,rfl,⟨rfl,rfl,rfl,fun h=>h⟩,g9 rfl,rfl,rfl,rfl,c6 (by simp),rfl,trivial⟩⟩ ?_
 intro i hi _
 by_cases hil:i<gL.length
 ·obtain ⟨g,hg⟩:∃g,gL[i]? =some g:=⟨_,lg0 hil⟩
  have hgd:gL.getD i []=g:=by rw [lg3,hg];rfl
  obtain ⟨b,hb⟩:∃b,out[i]? =some b:=⟨_,lg0 (by omega)⟩
  have hbd:out.getD i false=b:=by rw [lg3,hb];rfl
  have gp:out[0+(i:Int).toNat]? =some b:=by rw [Nat.zero_add,show (i:Int).toNat=i by omega];exact hb
  have eS:K2 gL out (i+1)=if b=true then K2 gL out i else v6 (K2 gL out i) g:=by
   conv=>lhs;unfold K2
   rw [hbd,hgd]
  rw [eS]
  have pl:=b7S (K2 gL out i) g (a1y (by omega) (Y4 h.p out i (by omega))) (a1y (by omega) (h.p.g g (lg2 hg)))
   (fun t ht=>by have:=M6 (a8G h out i (by omega)) t ht;omega) (fun t ht=>by have:=M6 (a6f (h.w g (lg2 hg)) (by decide)) t ht;omega)
  cases b with
  |true=>
   rw [if_pos rfl]
   conv=>whnf
   repeat' (first|refine zz ?_|refine qp pl ?_|refine b8 hg ?_|refine aA9 gp ?_|refine zd ?_ ?_<;>intro h<;>try omega|refine zy ?_|fail)<;>conv=>whnf
   all_goals first
    |omega
    |exact ⟨hil,trivial,[some 0],rfl,rfl,⟨c9 (c7 _),trivial⟩,⟨rfl,rfl,⟨rfl,rfl,rfl,fun h=>h⟩,g9 rfl,rfl,rfl,rfl,rfl,c6 (by omega),trivial⟩⟩
  |false=>
   rw [if_neg (by decide)]
   conv=>whnf
   repeat' (first|refine zz ?_|refine qp pl ?_|refine b8 hg ?_|refine aA9 gp ?_|refine zd ?_ ?_<;>intro h<;>try omega|refine zy ?_|fail)<;>conv=>whnf
   all_goals first
    |omega
    |exact ⟨hil,trivial,[some 0],rfl,rfl,⟨c9 (c7 _),trivial⟩,⟨rfl,rfl,⟨rfl,rfl,rfl,fun h=>h⟩,g9 rfl,rfl,rfl,rfl,rfl,c6 (by omega),trivial⟩⟩
 have hie:i=gL.length:=by omega
 subst hie
 have mu:=aP9 s (K2 gL out gL.length) h.sm h.p.z hpos (Y4 h.p out _ (Nat.le_refl _)) (a8G h out _ (Nat.le_refl _))
 have xr:=aq1 h out
 have xl:(a0f s gL out).length=n:=by rw [a9i,hnn]
 have ex:O3 s (K2 gL out gL.length)=a0f s gL out:=rfl
 rw [ex] at mu
 have m2:(((a0f s gL out).map fz).map j5).length=n:=by rw [List.length_map,List.length_map,xl]
 have po:∀g ∈ gL,a9 Tryz.prog 123 [n9 g,j8 ((a0f s gL out).map fz)] [] (f5 (a0X g (a0f s gL out))) []:=fun g hg=>
  a9K g (a0f s gL out) (by rw [xl];have:=h.p.g g hg;rwa [hnn] at this) (a6f (h.w g hg) (by decide)) (fun v hv=>by have:=xr v hv;omega) (by omega) (fun k=>by
   have h1:=a6F (M6 (a6f (h.w g hg) (by decide))) xr k
   have h2:=A7 (h.p.g g hg)
   have h3:g.length<=9:=by omega
   have h4:=Nat.mul_le_mul_right (31+4) h3
   omega)
 have eX:a0f s gL (t6 s gL k)=a0f s gL out:=by rw [hout]
 obtain ⟨x,hx⟩:∃x,a0f s gL out=x:=⟨_,rfl⟩
 rw [hx] at mu xr xl m2 po eX
 conv=>whnf
 repeat' (first|refine zz ?_|refine qp mu ?_|refine qp 5 ?_|refine bl0 [5] ?_|refine zd ?_ ?_<;>intro h<;>try omega|refine zy ?_|fail)<;>conv=>whnf
 all_goals try omega
 refine d6 c8 (fun i=>([J,a48 gL,S.c (C.t (T.ptr [ti s.n,M3 s.rows])),J,J,J,S.c (C.own 0 0 gL.length true),S.c (C.t (aI6 s gL k)),a7 .i64 k,J,J,J,j8 (x.map fz),J,f5 (a46 gL out x i),J,J,J,J,J,J,J,J,J,J,J,J,J,J,J,J,J,J,J,J,J,J,J,J,J,J,J,J,J,J,J,J,J,a48 gL,a7 .i64 gL.length,a7 .i64 i,J,J,J,J,J,J,J,J,J,J,J,J,J,J,J,J,J,J,J,J,J,J,J,J,J,J,J,J,J,J,J,J,J,J,J,J,J,J,J,J,J,J,J,J,J,J,J,J,J,J,J,J],[W1 (a2B gL out x i)])) gL.length (fun _=>True) [some 0] trivial
  ⟨rfl,rfl,⟨a8 (rows:=out.map a1v) rfl rfl rfl rfl (by rw [b11 olen]),trivial⟩,⟨rfl,rfl,⟨rfl,rfl,rfl,fun h=>h⟩,g9 rfl,rfl,rfl,rfl,rfl,c6 (by simp),rfl,trivial⟩⟩ ?_
 intro i hi _
 by_cases hil:i<gL.length
 ·obtain ⟨g,hg⟩:∃g,gL[i]? =some g:=⟨_,lg0 hil⟩
  have hgd:gL.getD i []=g:=by rw [lg3,hg];rfl
  obtain ⟨b,hb⟩:∃b,out.getD i false=b:=⟨_,rfl⟩
  have gp:(a2B gL out x i)[0+(i:Int).toNat]? =some b:=by rw [Nat.zero_add,show (i:Int).toNat=i by omega,b41 hil,hb]
  have pg:=po g (lg2 hg)
  rw [aK8,hb,hgd]
  have eM:0+(i:Int).toNat=i:=by omega
  generalize a46 gL out x i=mo
  cases b with
  |true=>
   rw [ag7 (.inl hb)]
   cases mo<;>
   ·conv=>whnf
    repeat' (first|refine zz ?_|refine qp pg ?_|refine b8 hg ?_|refine aA9 gp ?_|refine zd ?_ ?_<;>intro h<;>try omega|refine zy ?_|fail)<;>conv=>whnf
    all_goals first
     |omega
     |exact ⟨hil,trivial,[some 0],rfl,rfl,⟨c9 (c7 _),trivial⟩,⟨rfl,rfl,⟨rfl,rfl,rfl,fun h=>h⟩,g9 rfl,rfl,rfl,rfl,rfl,rfl,c6 (by omega),trivial⟩⟩
  |false=>
   cases hq:a0X g x with
   |false=>
    rw [hq] at pg
    rw [ag7 (.inr (by rw [hgd];exact hq))]
    cases mo<;>
    ·conv=>whnf
     repeat' (first|refine zz ?_|refine qp pg ?_|refine b8 hg ?_|refine aA9 gp ?_|refine zd ?_ ?_<;>intro h<;>try omega|refine zy ?_|fail)<;>conv=>whnf
     all_goals first
      |omega
      |exact ⟨hil,trivial,[some 0],rfl,rfl,⟨c9 (c7 _),trivial⟩,⟨rfl,rfl,⟨rfl,rfl,rfl,fun h=>h⟩,g9 rfl,rfl,rfl,rfl,rfl,rfl,c6 (by omega),trivial⟩⟩
   |true=>
    rw [hq] at pg
    have eB:=aG5 (l:=a2B gL out x i) eM
    rw [b2K hil (by rw [hgd];exact hq)] at eB
    cases mo<;>
    ·conv=>whnf
     repeat' (first|refine zz ?_|refine qp pg ?_|refine b8 hg ?_|refine aA9 gp ?_|refine zd ?_ ?_<;>intro h<;>try omega|refine zy ?_|fail)<;>conv=>whnf
     all_goals first
      |omega
      |exact ⟨hil,trivial,[some 0],rfl,rfl,⟨⟨rfl,rfl,rfl,.inl ⟨congrArg Blk.rows eB,(congrArg Blk.rows eB) ▸ c7 _⟩⟩,trivial⟩,⟨rfl,rfl,⟨rfl,rfl,rfl,fun h=>h⟩,g9 rfl,rfl,rfl,rfl,rfl,rfl,c6 (by omega),trivial⟩⟩
 have hie:i=gL.length:=by omega
 subst hie
 cases k with
 |zero=>
  have ey:W2 s gL 0=x:=by show a0f s gL (t6 s gL 0)=x;exact eX
  have cq:=fun H:Hp=>a4m (H:=H) (cl x xl) rfl rfl (c7 _)
  have eT:aI6 s gL 0=.sl 0 .nil []:=rfl
  rw [eT]
  have eT1:aI6 s gL (0+1)=B4 (x.map fz):=by show B4 ((W2 s gL 0).map fz)=_;rw [ey]
  have yl:x.length=n:=by rw [← ey,a6v,hnn]
  have yr:∀v ∈ x,rl v<=1000:=fun v hv=>by
   rw [← ey] at hv
   have h1:=a8x hG _ v hv
   have h2:=Nat.mul_le_mul_right 32 (show 0+1<=31 by omega)
   omega
  have oE:a2B gL out x gL.length=t6 s gL (0+1):=by rw [← hout,←eX];exact ax6 s gL _
  have mE:a46 gL out x gL.length=false↔t6 s gL (0+1)=t6 s gL 0:=by rw [← hout,←eX];exact ai4
  rw [oE]
  cases hmo:a46 gL out x gL.length with
  |true=>
   have hne:t6 s gL (0+1)≠t6 s gL 0:=fun e=>by rw [mE.2 e] at hmo;cases hmo
   have hI2:∀j,j<0+1->t6 s gL (j+1)≠t6 s gL j:=fun j hj=>by
    by_cases hjk:j=0
    ·subst hjk;exact hne
    ·exact hI j (by omega)
   have hf2:=a43 hI2
   rw [eT1]
   generalize t6 s gL (0+1)=O'
   generalize x=y at yl yr cq ⊢
   conv=>whnf
   repeat' (first|refine zz ?_|refine .inl ⟨_,_,cq _,?_⟩|refine zd ?_ ?_<;>intro h<;>try omega|refine zy ?_|fail)<;>conv=>whnf
   all_goals first
    |omega
    |exact ⟨by omega,hI2,[some 0],rfl,rfl,⟨c9 (c7 _),trivial⟩,⟨rfl,rfl,⟨rfl,rfl,rfl,fun h=>h⟩,aG7 yl,c6 (by omega),trivial⟩⟩
  |false=>
   have hK:=aZ4 (mE.1 hmo) hI
   have eF:t6 s gL (0+1)=isF s gL:=by unfold isF;rw [← hK];exact mE.1 hmo
   have eW:a9o s gL=x.map fun v=>v*Rat.divInt 1 ((0+1:Nat):Int):=by unfold a9o;rw [← hK,ey]
   rw [eF,eW]
   have of:=b2x 1 ((0:Nat)+1:Int) (by omega) (by decide) (by decide) (by omega) (by omega)
   have e1:Rat.divInt 1 ((0+1:Nat):Int)=Rat.divInt 1 ((0:Nat)+1:Int):=by push_cast;rfl
   rw [e1]
   have shr:rl (Rat.divInt 1 ((0:Nat)+1:Int))<=1:=by
    have h1:=N0 (p:=1) (q:=((0:Nat)+1:Int)) (by omega)
    have h2:=o5 (x:=1) (by decide) (by decide)
    have h3:=o5 (x:=((0:Nat)+1:Int)) (by omega) (by omega)
    omega
   generalize Rat.divInt 1 ((0:Nat)+1:Int)=sh at of shr
   have iL:(isF s gL).length=gL.length:=M8 _ _ _
   generalize isF s gL=I' at iL
   generalize x=y at yl yr cq ⊢
   have m5:((y.map fz).map j5).length=n:=by rw [List.length_map,List.length_map,yl]
   conv=>whnf
   repeat' (first|refine zz ?_|refine qp of ?_|refine qp 7 ?_|refine qp 5 ?_|refine .inl ⟨_,_,cq _,?_⟩|refine bl0 [7] ?_|refine bl0 [5] ?_|refine zd ?_ ?_<;>intro h<;>try omega|refine zy ?_|fail)<;>conv=>whnf
   all_goals try omega
   refine d6 c8 (fun j=>([J,J,J,J,J,J,S.c (C.own 0 0 gL.length true),S.c (C.own 1 0 n true),J,J,J,J,J,J,J,J,J,S.c (C.ptr 2 0 0),J,J,J,J,J,J,J,J,J,J,J,J,J,J,J,J,J,J,J,J,J,J,J,J,J,J,J,J,J,J,J,J,J,J,J,J,J,J,J,J,J,J,J,J,J,J,J,J,J,J,J,J,J,J,J,J,J,J,J,J,J,J,J,J,J,J,S.c (C.own 1 0 n true),a7 .i64 n,a7 .i64 j,J,J,J,J,J,J,J,J,J,J,J,J,J,J,J,J],[W1 I',flB (rF n (scF (fun j=>y.getD j 0) sh j)),frX sh])) n (fun _=>True) [some 0,some 1,some 2] trivial
    ⟨rfl,rfl,⟨c9 (c7 _),a8 (rows:=(y.map fz).map j5) rfl rfl rfl rfl (by rw [a06 y,yl,u4 (g:=scF (fun j=>y.getD j 0) sh 0) (h:=fun j=>y.getD j 0) fun j hj=>by unfold scF;rw [if_neg (by omega)]]),aT6 _,trivial⟩,⟨⟨rfl,rfl,rfl,fun h=>h⟩,⟨rfl,rfl,rfl,fun h=>h⟩,⟨rfl,rfl,rfl⟩,⟨rfl,rfl,rfl,fun h=>h⟩,c6 (by omega),rfl,trivial⟩⟩ ?_
   intro j hj _
   by_cases hjl:j<n
   ·have hyj:rl (y.getD j 0)<=1000:=by rw [lg3,lg0 (by omega)];exact yr _ (List.getElem_mem _)
    have mu2:=aa3 (y.getD j 0) sh (by omega) (by omega)
    have eJ:0+(j:Int).toNat=j:=by omega
    have gj:(rF n (scF (fun j=>y.getD j 0) sh j))[0+(j:Int).toNat]? =some (fz (y.getD j 0)):=by rw [eJ,B9 hjl];unfold scF;rw [if_neg (by omega)]
    have e:s8 (flB (rF n (scF (fun j=>y.getD j 0) sh j))) ((flB (rF n (scF (fun j=>y.getD j 0) sh j))).rows.set (0+(j:Int).toNat) (frC (fz (y.getD j 0*sh))))=flB (rF n (scF (fun j=>y.getD j 0) sh (j+1))):=by
     rw [F0 eJ,L2 hjl]
     refine congrArg flB (u4 fun q hq=>?_)
     unfold scF
     by_cases hqj:q=j
     ·subst hqj;rw [if_pos rfl,if_pos (by omega)]
     ·rw [if_neg hqj]
      by_cases hq2:q<j
      ·rw [if_pos hq2,if_pos (by omega)]
      ·rw [if_neg hq2,if_neg (by omega)]
    conv=>whnf
    repeat' (first|refine zz ?_|refine qp mu2 ?_|refine qp 7 ?_|refine qp 5 ?_|refine j6 gj ?_|refine bl0 [7] ?_|refine bl0 [5] ?_|refine zd ?_ ?_<;>intro h<;>try omega|refine zy ?_|fail)<;>conv=>whnf
    all_goals first
     |omega
     |exact ⟨hjl,trivial,[some 0,some 1,some 2],rfl,rfl,⟨c9 (c7 _),⟨rfl,rfl,rfl,.inl ⟨congrArg Blk.rows e,(congrArg Blk.rows e) ▸ c7 _⟩⟩,aT6 _,trivial⟩,⟨⟨rfl,rfl,rfl,fun h=>h⟩,⟨rfl,rfl,rfl,fun h=>h⟩,⟨rfl,rfl,rfl⟩,⟨rfl,rfl,rfl,fun h=>h⟩,rfl,c6 (by omega),trivial⟩⟩
   ·have hje:j=n:=by omega
    subst hje
    have eE:rF j (scF (fun j=>y.getD j 0) sh j)=(y.map fun v=>v*sh).map fz:=by
     rw [a06 (y.map _),List.length_map,yl]
     refine u4 fun q hq=>?_
     unfold scF
     rw [if_pos hq]
     show y.getD q 0*sh=(y.map fun v=>v*sh).getD q 0
     rw [lg3,lg3,List.getElem?_map,lg0 (by omega)];rfl
    rw [eE]
    conv=>whnf
    repeat' (first|refine zz ?_|refine zd ?_ ?_<;>intro h<;>try omega|refine zy ?_|fail)<;>conv=>whnf
    all_goals first
     |omega
     |exact k5 ⟨(show VC _ (fun id=>E1 [] id=true) (C.own 0 0 _ true) _ from t5 (k:=W1 I') rfl rfl (fun h=>h) rfl rfl (by rw [List.length_map,iL])),(show VC _ (fun id=>E1 [] id=true) (C.own 1 0 _ true) _ from t5 (k:=flB ((y.map fun v=>v*sh).map fz)) rfl rfl (fun h=>h) rfl rfl (by rw [List.length_map,List.length_map,List.length_map,yl])),trivial⟩
 |succ k=>
  have ey:W2 s gL (k+1)=V4 (W2 s gL k) x:=by show V4 (W2 s gL k) (a0f s gL (t6 s gL (k+1)))=_;rw [eX]
  have sl:=a6v (s:=s) (gL:=gL) k
  have sr:=a8x hG k
  have hl7:0<(((W2 s gL k).map fz).map j5).length:=by rw [List.length_map,List.length_map,sl];omega
  have pl:=b3A (W2 s gL k) x (by rw [sl,xl,hnn]) (by omega) (by omega) (fun v hv=>by have:=sr v hv;omega) (fun v hv=>by have:=xr v hv;omega)
  rw [sl,hnn] at pl
  have pq:=fun H:Hp=>a4m (H:=H) pl rfl rfl (c7 _)
  have eT:aI6 s gL (k+1)=B4 ((W2 s gL k).map fz):=rfl
  rw [eT]
  have eT1:aI6 s gL (k+1+1)=B4 ((V4 (W2 s gL k) x).map fz):=by show B4 ((W2 s gL (k+1)).map fz)=_;rw [ey]
  have yl:(V4 (W2 s gL k) x).length=n:=by rw [← ey,a6v,hnn]
  have yr:∀v ∈ (V4 (W2 s gL k) x),rl v<=1000:=fun v hv=>by
   rw [← ey] at hv
   have h1:=a8x hG _ v hv
   have h2:=Nat.mul_le_mul_right 32 (show (k+1)+1<=31 by omega)
   omega
  have oE:a2B gL out x gL.length=t6 s gL ((k+1)+1):=by rw [← hout,←eX];exact ax6 s gL _
  have mE:a46 gL out x gL.length=false↔t6 s gL ((k+1)+1)=t6 s gL (k+1):=by rw [← hout,←eX];exact ai4
  rw [oE]
  cases hmo:a46 gL out x gL.length with
  |true=>
   have hne:t6 s gL ((k+1)+1)≠t6 s gL (k+1):=fun e=>by rw [mE.2 e] at hmo;cases hmo
   have hI2:∀j,j<(k+1)+1->t6 s gL (j+1)≠t6 s gL j:=fun j hj=>by
    by_cases hjk:j=(k+1)
    ·subst hjk;exact hne
    ·exact hI j (by omega)
   have hf2:=a43 hI2
   rw [eT1]
   generalize t6 s gL ((k+1)+1)=O'
   generalize (V4 (W2 s gL k) x)=y at yl yr pq ⊢
   conv=>whnf
   repeat' (first|refine zz ?_|refine ⟨hl7,?_⟩|refine .inl ⟨_,_,pq _,?_⟩|refine zd ?_ ?_<;>intro h<;>try omega|refine zy ?_|fail)<;>conv=>whnf
   all_goals first
    |omega
    |exact ⟨by omega,hI2,[some 0],rfl,rfl,⟨c9 (c7 _),trivial⟩,⟨rfl,rfl,⟨rfl,rfl,rfl,fun h=>h⟩,aG7 yl,c6 (by omega),trivial⟩⟩
  |false=>
   have hK:=aZ4 (mE.1 hmo) hI
   have eF:t6 s gL ((k+1)+1)=isF s gL:=by unfold isF;rw [← hK];exact mE.1 hmo
   have eW:a9o s gL=(V4 (W2 s gL k) x).map fun v=>v*Rat.divInt 1 (((k+1)+1:Nat):Int):=by unfold a9o;rw [← hK,ey]
   rw [eF,eW]
   have of:=b2x 1 (((k+1):Nat)+1:Int) (by omega) (by decide) (by decide) (by omega) (by omega)
   have e1:Rat.divInt 1 (((k+1)+1:Nat):Int)=Rat.divInt 1 (((k+1):Nat)+1:Int):=by push_cast;rfl
   rw [e1]
   have shr:rl (Rat.divInt 1 (((k+1):Nat)+1:Int))<=1:=by
    have h1:=N0 (p:=1) (q:=(((k+1):Nat)+1:Int)) (by omega)
    have h2:=o5 (x:=1) (by decide) (by decide)
    have h3:=o5 (x:=(((k+1):Nat)+1:Int)) (by omega) (by omega)
    omega
   generalize Rat.divInt 1 (((k+1):Nat)+1:Int)=sh at of shr
   have iL:(isF s gL).length=gL.length:=M8 _ _ _
   generalize isF s gL=I' at iL
   generalize (V4 (W2 s gL k) x)=y at yl yr pq ⊢
   have m5:((y.map fz).map j5).length=n:=by rw [List.length_map,List.length_map,yl]
   conv=>whnf
   repeat' (first|refine zz ?_|refine qp of ?_|refine qp 7 ?_|refine qp 5 ?_|refine ⟨hl7,?_⟩|refine .inl ⟨_,_,pq _,?_⟩|refine bl0 [7] ?_|refine bl0 [5] ?_|refine zd ?_ ?_<;>intro h<;>try omega|refine zy ?_|fail)<;>conv=>whnf
   all_goals try omega
   refine d6 c8 (fun j=>([J,J,J,J,J,J,S.c (C.own 0 0 gL.length true),S.c (C.own 1 0 n true),J,J,J,J,J,J,J,J,J,S.c (C.ptr 2 0 0),J,J,J,J,J,J,J,J,J,J,J,J,J,J,J,J,J,J,J,J,J,J,J,J,J,J,J,J,J,J,J,J,J,J,J,J,J,J,J,J,J,J,J,J,J,J,J,J,J,J,J,J,J,J,J,J,J,J,J,J,J,J,J,J,J,J,S.c (C.own 1 0 n true),a7 .i64 n,a7 .i64 j,J,J,J,J,J,J,J,J,J,J,J,J,J,J,J,J],[W1 I',flB (rF n (scF (fun j=>y.getD j 0) sh j)),frX sh])) n (fun _=>True) [some 0,some 1,some 2] trivial
    ⟨rfl,rfl,⟨c9 (c7 _),a8 (rows:=(y.map fz).map j5) rfl rfl rfl rfl (by rw [a06 y,yl,u4 (g:=scF (fun j=>y.getD j 0) sh 0) (h:=fun j=>y.getD j 0) fun j hj=>by unfold scF;rw [if_neg (by omega)]]),aT6 _,trivial⟩,⟨⟨rfl,rfl,rfl,fun h=>h⟩,⟨rfl,rfl,rfl,fun h=>h⟩,⟨rfl,rfl,rfl⟩,⟨rfl,rfl,rfl,fun h=>h⟩,c6 (by omega),rfl,trivial⟩⟩ ?_
   intro j hj _
   by_cases hjl:j<n
   ·have hyj:rl (y.getD j 0)<=1000:=by rw [lg3,lg0 (by omega)];exact yr _ (List.getElem_mem _)
    have mu2:=aa3 (y.getD j 0) sh (by omega) (by omega)
    have eJ:0+(j:Int).toNat=j:=by omega
    have gj:(rF n (scF (fun j=>y.getD j 0) sh j))[0+(j:Int).toNat]? =some (fz (y.getD j 0)):=by rw [eJ,B9 hjl];unfold scF;rw [if_neg (by omega)]
    have e:s8 (flB (rF n (scF (fun j=>y.getD j 0) sh j))) ((flB (rF n (scF (fun j=>y.getD j 0) sh j))).rows.set (0+(j:Int).toNat) (frC (fz (y.getD j 0*sh))))=flB (rF n (scF (fun j=>y.getD j 0) sh (j+1))):=by
     rw [F0 eJ,L2 hjl]
     refine congrArg flB (u4 fun q hq=>?_)
     unfold scF
     by_cases hqj:q=j
     ·subst hqj;rw [if_pos rfl,if_pos (by omega)]
     ·rw [if_neg hqj]
      by_cases hq2:q<j
      ·rw [if_pos hq2,if_pos (by omega)]
      ·rw [if_neg hq2,if_neg (by omega)]
    conv=>whnf
    repeat' (first|refine zz ?_|refine qp mu2 ?_|refine qp 7 ?_|refine qp 5 ?_|refine j6 gj ?_|refine bl0 [7] ?_|refine bl0 [5] ?_|refine zd ?_ ?_<;>intro h<;>try omega|refine zy ?_|fail)<;>conv=>whnf
    all_goals first
     |omega
     |exact ⟨hjl,trivial,[some 0,some 1,some 2],rfl,rfl,⟨c9 (c7 _),⟨rfl,rfl,rfl,.inl ⟨congrArg Blk.rows e,(congrArg Blk.rows e) ▸ c7 _⟩⟩,aT6 _,trivial⟩,⟨⟨rfl,rfl,rfl,fun h=>h⟩,⟨rfl,rfl,rfl,fun h=>h⟩,⟨rfl,rfl,rfl⟩,⟨rfl,rfl,rfl,fun h=>h⟩,rfl,c6 (by omega),trivial⟩⟩
   ·have hje:j=n:=by omega
    subst hje
    have eE:rF j (scF (fun j=>y.getD j 0) sh j)=(y.map fun v=>v*sh).map fz:=by
     rw [a06 (y.map _),List.length_map,yl]
     refine u4 fun q hq=>?_
     unfold scF
     rw [if_pos hq]
     show y.getD q 0*sh=(y.map fun v=>v*sh).getD q 0
     rw [lg3,lg3,List.getElem?_map,lg0 (by omega)];rfl
    rw [eE]
    conv=>whnf
    repeat' (first|refine zz ?_|refine zd ?_ ?_<;>intro h<;>try omega|refine zy ?_|fail)<;>conv=>whnf
    all_goals first
     |omega
     |exact k5 ⟨(show VC _ (fun id=>E1 [] id=true) (C.own 0 0 _ true) _ from t5 (k:=W1 I') rfl rfl (fun h=>h) rfl rfl (by rw [List.length_map,iL])),(show VC _ (fun id=>E1 [] id=true) (C.own 1 0 _ true) _ from t5 (k:=flB ((y.map fun v=>v*sh).map fz)) rfl rfl (fun h=>h) rfl rfl (by rw [List.length_map,List.length_map,List.length_map,yl])),trivial⟩
theorem b6f {cs:List G5} {rs:List z4} {scale reading day:Int} {lo hi:Rat} (h:H6 cs rs scale reading day=some (lo,hi)):0<=hi:=by
 unfold H6 at h
 split at h
 ·cases h
 ·rename_i i hi
  obtain ⟨hb,c,hc,_,hcv⟩:=I4 hi
  have e:a0n cs i=c:=by unfold a0n;rw [hc];rfl
  rw [e] at h
  split at h
  ·cases h
  ·split at h
   ·rename_i hr
    injection h with h
    injection h with h1 h2
    rw [← h2]
    unfold F9 J7 at hcv
    rw [S4] at hr
    simp only [Bool.and_eq_true,decide_eq_true_eq,S4] at hcv
    obtain ⟨⟨⟨⟨⟨⟨⟨h1,h2⟩,h3⟩,_⟩,h4⟩,h5⟩,h6⟩,h7⟩:=hcv
    have e1:0<=c.permille*reading:=Int.mul_nonneg (by omega) (by omega)
    have e3:0<=c.drift*(day - c.since):=Int.mul_nonneg (by omega) (by omega)
    have r1:(0:Rat)<=(reading:Rat):=by exact_mod_cast hr.1
    have r2:(0:Rat)<=Rat.divInt (c.permille*reading) 1000:=by rw [Rat.divInt_nonneg_iff_of_pos_right (by decide)];exact e1
    have r3:(0:Rat)<=((c.grams+c.drift*(day - c.since):Int):Rat):=by exact_mod_cast (show (0:Int)<=c.grams+c.drift*(day - c.since) by omega)
    unfold a1I
    grind
   ·cases h
theorem b1p {t:e7} {kind:Int} (ht:o9 t=0) (k0:0<=kind) (k1:kind<8):aS5 (t8 t) kind (List.replicate t.ev.moves.length 0):=by
 refine ⟨a1Y ht,k0,k1,by simp [t8],fun i x hx=>?_⟩
 rw [a9u,b1a (fun j=>a9u _ j)]
 refine ⟨⟨Rat.le_refl,fun _=>Rat.le_refl,fun _=>rfl⟩,?_,fun g hg=>(by simp [g7,t8] at hg),fun _=>rfl⟩
 show ad8 (C3 t.ev x) 0=true
 cases hiv:C3 t.ev x with
 |none=>rfl
 |some p=>
  obtain ⟨lo,hi⟩:=p
  simp only [ad8,decide_eq_true_eq]
  unfold C3 at hiv
  split at hiv
  ·cases hiv
  ·exact b6f hiv
theorem aM6 {t:e7} {kind:Int} (i:Nat) (ht:o9 t=0) (k0:0<=kind) (k1:kind<8):aa0 t kind i (List.replicate t.ev.moves.length 0):=
 ⟨b1p ht k0 k1,fun j _ _=>a9u _ j⟩
structure QT (t:e7):Prop where
 h:o9 t=0
 m:t.ev.moves.length<=8
 p:t.ev.places.length<=20
theorem QT.c {t:e7} (h:QT t):t.cleans.length<=50:=(p8 h.h).2.2.1
theorem U6 {t:e7} {kind:Int} {i:Nat} {z:List Rat} (h:QT t) (k0:0<=kind) (k1:kind<8):j7 (p9 t kind i) z=true↔aa0 t kind i z:=alone_holds h.h k0 k1 (by have:=h.m;omega)
theorem b1m {l:List Nat} {i:Nat}:∀w ∈ J3 l i,b1Q w:=by
 intro w hw
 obtain ⟨j,hj,rfl⟩:=List.mem_map.1 hw
 exact ⟨V3 (by decide) (by decide),a5n⟩
theorem a0i {t:e7} {kind:Int} (i:Nat) (h:QT t):a0s (p9 t kind i):=by
 have hm:=h.m
 have hc:=h.c
 refine ⟨a7T (by omega) hc,fun w hw=>?_,by show ((t.ev.moves.length:Nat):Int)<=9;omega,?_⟩
 ·rcases List.mem_append.1 hw with hw|hw
  ·exact b8o (a1Y h.h) w hw
  ·exact b1m w hw
 ·have h1:=O7 (t:=t8 t) (kind:=kind) t.ev.moves.length
  have h2:t.ev.moves.length*(2+(t8 t).finds.length+(t8 t).cleans.length)<=14*52:=Nat.mul_le_mul (by omega) (by show 2+0+t.cleans.length<=52;omega)
  have h3:=a1s (i5 t.ev) i
  have h4:(i5 t.ev).length<=t.ev.moves.length:=x7 _
  show ((n8 (t8 t) kind t.ev.moves.length)++J3 (i5 t.ev) i).length<=999
  rw [List.length_append]
  omega
theorem a4u (i:Nat) (z:List Rat):k7 (y0 i) z=z.getD i 0:=by
 unfold y0
 show _=_
 simp only [k7,Int.toNat_natCast]
 have:((1:Int):Rat)=1:=rfl
 rw [this];grind
theorem a7M {e:Ev} (h0:z6 e=0) (z:List Rat) (p:Nat) (k:Nat):k7 (u3 e p k) z=if m9 e p=0 then 0 else t7 e z k p:=by
 unfold u3
 split
 ·rfl
 ·exact a5r h0 z p k
theorem an1 {e:Ev} {p:Int}:∀k,Y5 1 (i7 e p k)
 |0=>fun t ht=>by cases ht
 |k+1=>by
  have ih:=an1 (e:=e) (p:=p) k
  unfold i7
  cases hx:e.moves[k]? with
  |none=>exact ih
  |some y=>
   simp only
   split
   ·intro t ht
    rcases List.mem_append.1 ht with ht|ht
    ·exact ih t ht
    ·simp at ht;subst ht;exact ⟨1,rfl,by decide⟩
   ·split
    ·intro t ht
     rcases List.mem_append.1 ht with ht|ht
     ·exact ih t ht
     ·simp at ht;subst ht;exact ⟨-1,rfl,by decide⟩
    ·exact ih
theorem a6L {e:Ev} {g:List (Int × Rat)} (h:g ∈ G6 e):(∃ i,i<e.moves.length∧g=y0 i)∨∃p,p<e.places.length∧g=u3 e p e.moves.length:=by
 unfold G6 E9 at h
 rcases List.mem_append.1 h with h|h
 ·obtain ⟨i,hi,rfl⟩:=List.mem_map.1 h;exact .inl ⟨i,List.mem_range.1 hi,rfl⟩
 ·obtain ⟨p,hp,rfl⟩:=List.mem_map.1 h;exact .inr ⟨p,List.mem_range.1 hp,rfl⟩
theorem a4C (e:Ev):(G6 e).length=e.moves.length+e.places.length:=a57 _ _ _
theorem aS0 {e:Ev} {i:Nat} (h:i<e.moves.length):(G6 e).getD i []=y0 i:=by
 unfold G6 E9
 rw [lg3,List.getElem?_append_left (by simpa using h)]
 simp [h]
theorem az8 {e:Ev} {p:Nat} (h:p<e.places.length):(G6 e).getD (e.moves.length+p) []=u3 e p e.moves.length:=by
 unfold G6 E9
 rw [lg3,List.getElem?_append_right (by simp)]
 simp [h]
theorem F3 {t:e7} {kind:Int} (i:Nat) (h:QT t) (h0:0<t.ev.moves.length) (k0:0<=kind) (k1:kind<8):a6O (p9 t kind i) (G6 t.ev):=by
 have hs:=a0i (kind:=kind) i h
 have hck:=(p8 h.h).1
 refine ⟨⟨hs.r,(av5 hs.r).2 ⟨_,(U6 h k0 k1).2 (aM6 i h.h k0 k1)⟩,fun g hg=>?_,fun g hg z hz=>?_⟩,hs,by show (0:Int)<((t.ev.moves.length:Nat):Int);omega,fun g hg=>?_,by rw [a4C];have:=h.m;have:=h.p;omega⟩
 ·show f8 (-1) ((((t.ev.moves.length:Nat):Int).toNat:Nat):Int) g=true
  rw [Int.toNat_natCast]
  rcases a6L hg with ⟨i,hi,rfl⟩|⟨p,hp,rfl⟩
  ·exact T4 (by omega) (by show ((i:Nat):Int)<_;omega) (by show ((1:Int):Rat)≠0;decide) rfl
  ·unfold u3
   split
   ·rfl
   ·exact (a1L _ (Int.le_refl _)).1
 ·have hA:=(U6 h k0 k1).1 hz
  rcases a6L hg with ⟨j,hj,rfl⟩|⟨p,hp,rfl⟩
  ·rw [a4u]
   obtain ⟨x,hx⟩:∃x,t.ev.moves[j]? =some x:=⟨_,lg0 hj⟩
   exact (hA.p.step j x hx).1.pos
  ·rw [a7M hck]
   split
   ·exact Rat.le_refl
   ·rename_i hk
    exact aF7 hA.p _ _ hk
 ·rcases a6L hg with ⟨j,hj,rfl⟩|⟨p,hp,rfl⟩
  ·intro t ht;simp [y0] at ht;subst ht;exact ⟨1,rfl,by decide⟩
  ·unfold u3
   split
   ·intro t ht;cases ht
   ·exact an1 _
noncomputable def isA (t:e7) (kind:Int) (i:Nat):List Bool:=isF (p9 t kind i) (G6 t.ev)
noncomputable def K6 (t:e7) (kind:Int) (mv:Nat):List Nat:=(i5 t.ev).filter fun i=>(isA t kind i).getD mv false
noncomputable def J1 (t:e7) (kind:Int) (mv g:Nat):Bool:=(K6 t kind mv).any fun i=>(isA t kind i).getD g false
def aS1 (e:Ev) (z:List Rat) (g:Nat):Rat:=if g<e.moves.length then z.getD g 0 else if m9 e ((g - e.moves.length:Nat):Int)=0 then 0 else t7 e z e.moves.length (g - e.moves.length)
theorem a6Y {e:Ev} (h0:z6 e=0) (z:List Rat) {g:Nat} (hg:g<e.moves.length+e.places.length):k7 ((G6 e).getD g []) z=aS1 e z g:=by
 unfold aS1
 by_cases h:g<e.moves.length
 ·rw [if_pos h,aS0 h,a4u]
 ·obtain ⟨p,rfl⟩:∃p,g=e.moves.length+p:=⟨g - e.moves.length,by omega⟩
  rw [if_neg h,az8 (by omega),a7M h0,Nat.add_sub_cancel_left]
theorem b04 {t:e7} {kind:Int} {i g:Nat} (h:QT t) (h0:0<t.ev.moves.length) (k0:0<=kind) (k1:kind<8) (hg:g<t.ev.moves.length+t.ev.places.length):
 (isA t kind i).getD g false=true↔∃z,aa0 t kind i z∧0<aS1 t.ev z g:=by
 have hG:=F3 (kind:=kind) i h h0 k0 k1
 have hck:=(p8 h.h).1
 rw [isA,b49 hG.p (by rw [a4C];exact hg)]
 constructor
 ·rintro ⟨z,hz,hp⟩;exact ⟨z,(U6 h k0 k1).1 hz,by rw [← a6Y hck z hg];exact hp⟩
 ·rintro ⟨z,hz,hp⟩;exact ⟨z,(U6 h k0 k1).2 hz,by rw [a6Y hck z hg];exact hp⟩
noncomputable def a5c (t:e7) (kind:Int) (i:Nat):List Rat:=a9o (p9 t kind i) (G6 t.ev)
theorem ah7 {t:e7} {kind:Int} {i:Nat} (h:QT t) (h0:0<t.ev.moves.length) (k0:0<=kind) (k1:kind<8):aa0 t kind i (a5c t kind i)∧∀g,g<t.ev.moves.length+t.ev.places.length->(isA t kind i).getD g false=true->0<aS1 t.ev (a5c t kind i) g:=by
 have hG:=F3 (kind:=kind) i h h0 k0 k1
 have hck:=(p8 h.h).1
 obtain ⟨h1,h2⟩:=b24 hG.p
 refine ⟨(U6 h k0 k1).1 h1,fun g hg hi=>?_⟩
 rw [← a6Y hck _ hg]
 exact h2 g (by rw [a4C];exact hg) hi
theorem aq7 (t:e7) (kind:Int) (i:Nat):(isA t kind i).length=t.ev.moves.length+t.ev.places.length:=by
 rw [← a4C];exact M8 _ _ _
noncomputable def a5e (t:e7) (kind:Int) (i:Nat):List T:=[ti i,a6A (isA t kind i),B4 ((a5c t kind i).map fz)]
noncomputable abbrev b9h (t:e7) (kind:Int) (l:List Nat):T:=.sl 3 .any (l.map (a5e t kind))
noncomputable abbrev ar4 (t:e7) (kind:Int) (l:List Nat):S:=.c (.t (b9h t kind l))
noncomputable abbrev b96 (t:e7) (kind:Int) (l:List Nat):Blk:={ mode:=.live,elem:=127,size:=3,rows:=toC (l.map (a5e t kind)),box:=false }
noncomputable def a7D (t:e7) (kind:Int) (mv k:Nat):List Nat:=((i5 t.ev).take k).filter fun i=>(isA t kind i).getD mv false
theorem b1r {t:e7} {kind:Int} {mv k i:Nat} (h:(i5 t.ev)[k]? =some i):a7D t kind mv (k+1)=if (isA t kind i).getD mv false=true then a7D t kind mv k++[i] else a7D t kind mv k:=by
 unfold a7D
 have e:(i5 t.ev).take (k+1)=(i5 t.ev).take k++[i]:=by rw [List.take_add_one,h];rfl
 rw [e,List.filter_append]
 by_cases hj:(isA t kind i).getD mv false=true
 ·rw [if_pos hj];simp [lg3] at hj ⊢;rw [hj]
 ·rw [if_neg hj];simp [lg3] at hj ⊢;rw [hj]
theorem b47 (t:e7) (kind:Int) (mv k:Nat):(a7D t kind mv k).length<=(i5 t.ev).length:=by
 unfold a7D
 exact Nat.le_trans (List.length_filter_le _ _) (by rw [List.length_take];omega)
theorem b4j (t:e7) (kind:Int) (mv:Nat):a7D t kind mv (i5 t.ev).length=K6 t kind mv:=by
 unfold a7D K6;rw [lg4 (Nat.le_refl _)]
set_option maxHeartbeats 4000000 in
theorem a7h (t:e7) (hs:t.Sized) (h:QT t) (find:Int) (f:L7) (f0:0<=find) (hf:t.finds[find.toNat]? =some f):
 a9 Tryz.prog 78 [trS t,a7 .i64 find] [] (ar4 t f.kind (K6 t f.kind f.mv.toNat)) []:=by
 obtain ⟨q1,q2,q3,q4,q5⟩:=p8 h.h
 have hg:=A0 q4 f (lg2 hf)
 have hm:=h.m
 have hp:=h.p
 have m1:((T6 t.ev).map d9).length=(i5 t.ev).length:=by rw [List.length_map,a5s]
 have ll:(i5 t.ev).length<=t.ev.moves.length:=x7 _
 have li:=b0e t.ev hs.ev q1
 have go:=b5p t.ev hs.ev (by omega) (by omega)
 (refine ac Tryz.func78 ?_;(conv=>whnf);repeat ((first|refine b0x ?_|refine zy ?_);conv=>whnf))
 repeat' (first|refine zz ?_|refine qp li ?_|refine qp go ?_|refine zd ?_ ?_<;>intro h<;>try omega|refine zy ?_|fail)<;>conv=>whnf
 refine d6 c8 (fun k=>([J,a7 .i64 find,S.c (C.t (T.ptr (trT t))),J,J,S.c (C.own 0 0 (a7D t f.kind f.mv.toNat k).length true),d8 (T6 t.ev),a48 (G6 t.ev),J,J,J,J,J,J,J,J,J,J,d8 (T6 t.ev),a7 .i64 (i5 t.ev).length,a7 .i64 k,J,J,J,J,J,J,J,J,J,J,J,J,J,J,J,J,J,J,J,J,J,J,J,J,J,J,J,J,J,J,J],[b96 t f.kind (a7D t f.kind f.mv.toNat k)])) (i5 t.ev).length (fun _=>True) [none] trivial
  ⟨rfl,rfl,⟨⟨rfl,rfl⟩,trivial⟩,⟨rfl,rfl,⟨rfl,rfl,rfl⟩,rfl,rfl,rfl,c6 (by simp [m1]),rfl,trivial⟩⟩ ?_
 intro k hk _
 have l2:=b47 t f.kind f.mv.toNat k
 by_cases hlt:k<(i5 t.ev).length
 ·obtain ⟨i,hi⟩:∃i,(i5 t.ev)[k]? =some i:=⟨_,lg0 hlt⟩
  have hii:=a5o hi
  have al:=aZ5 t hs h.h find f f0 hf i (by omega)
  have il:i<t.ev.moves.length:=by
   obtain ⟨m,hm,_⟩:=L6.1 (lg2 hi)
   exact (lg1 hm).1
  have re:=b1t (p9 t f.kind i) (G6 t.ev) (F3 i h (by omega) (by omega) (by omega))
  have lA:(a7D t f.kind f.mv.toNat k).length<=(b96 t f.kind (a7D t f.kind f.mv.toNat k)).rows.length:=by show _<=(toC _).length;simp [toC]
  have iA:=aq7 t f.kind i
  obtain ⟨b,hb⟩:∃b,(isA t f.kind i)[f.mv.toNat]? =some b:=⟨_,lg0 (by omega)⟩
  have hbd:(isA t f.kind i).getD f.mv.toNat false=b:=by rw [lg3,hb];rfl
  have eA:isF (p9 t f.kind i) (G6 t.ev)=isA t f.kind i:=rfl
  have eW:a9o (p9 t f.kind i) (G6 t.ev)=a5c t f.kind i:=rfl
  rw [eA,eW] at re
  have gb:∀{K:List T->Prop},K [tb b]->∃row,0<=f.mv∧((isA t f.kind i).map a1v)[f.mv.toNat]? =some row∧K row:=fun hK=>p4 (f:=a1v) hg.1 hb hK
  rw [b1r hi,hbd]
  cases b with
  |true=>
   rw [if_pos rfl]
   conv=>whnf
   repeat' (first|refine zz ?_|refine qp al ?_|refine qp re ?_|refine qp toC ?_|refine b8 hii ?_|refine p4 f0 hf ?_|refine gb ?_|refine o7 lA (by simp [toC];omega) ?_|refine zd ?_ ?_<;>intro h<;>try omega|refine zy ?_|fail)<;>conv=>whnf
   all_goals first
    |omega
    |(refine ⟨hlt,trivial,[some 1],rfl,rfl,⟨a8 (rows:=(a7D t f.kind f.mv.toNat k++[i]).map (a5e t f.kind)) rfl rfl rfl ?_ rfl,trivial⟩,⟨rfl,rfl,⟨rfl,rfl,?_,fun h=>h⟩,rfl,rfl,rfl,rfl,c6 (by omega),trivial⟩⟩
      ·exact y5 (f:=a5e t f.kind) (x:=i) rfl
      ·simp [toC])
  |false=>
   rw [if_neg (by decide)]
   conv=>whnf
   repeat' (first|refine zz ?_|refine qp al ?_|refine qp re ?_|refine b8 hii ?_|refine p4 f0 hf ?_|refine gb ?_|refine zd ?_ ?_<;>intro h<;>try omega|refine zy ?_|fail)<;>conv=>whnf
   all_goals first
    |omega
    |exact ⟨hlt,trivial,[some 0],rfl,rfl,⟨c9 (c7 _),trivial⟩,⟨rfl,rfl,⟨rfl,rfl,rfl,fun h=>h⟩,rfl,rfl,rfl,rfl,c6 (by omega),trivial⟩⟩
 ·have hke:k=(i5 t.ev).length:=by omega
  subst hke
  rw [b4j]
  conv=>whnf
  repeat' (first|refine zz ?_|refine zd ?_ ?_<;>intro h<;>try omega|refine zy ?_|fail)<;>conv=>whnf
  all_goals first
   |omega
   |exact Q3 rfl (fun h=>h) rfl rfl (by simp)
theorem a2F {t:e7} (h:QT t) {find:Int} {f:L7} (f0:0<=find) (hf:t.finds[find.toNat]? =some f):a0v t find=true:=by
 have hl:=(lg1 hf).1
 unfold a0v
 rw [decide_eq_true h.h,decide_eq_true f0,decide_eq_true (by omega)];rfl
def C9 (l:List Nat):List Int:=l.map fun i:Nat=>(i:Int)
theorem a0Q (l:List Nat):(C9 l).length=l.length:=by simp [C9]
theorem b18 {l:List Nat} {k i:Nat} (h:l[k]? =some i):C9 (l.take (k+1))=C9 (l.take k)++[(i:Int)]:=by
 unfold C9;rw [List.take_add_one,h];simp
theorem ad1 (t:e7) (hs:t.Sized) (find:Int) (h:a0v t find=false):a9 Tryz.prog 34 [trS t,a7 .i64 find] [] (.tup [.c (.t (.sl 0 .nil [])),a7 .i64 1]) []:=by
 have fi:=a8u t hs find
 rw [h] at fi
 (refine ac Tryz.func34 ?_;(conv=>whnf);repeat ((first|refine b0x ?_|refine zy ?_);conv=>whnf))
 repeat' (first|refine zz ?_|refine qp fi ?_|refine zd ?_ ?_<;>intro h<;>try omega|refine zy ?_|fail)<;>conv=>whnf
 all_goals first
  |omega
  |exact k5 ⟨rfl,rfl,trivial⟩
set_option maxHeartbeats 4000000 in
theorem a4j (t:e7) (hs:t.Sized) (h:QT t) (find:Int) (f:L7) (f0:0<=find) (hf:t.finds[find.toNat]? =some f):
 a9 Tryz.prog 34 [trS t,a7 .i64 find] [] (.tup [d8 (C9 (K6 t f.kind f.mv.toNat)),a7 .i64 0]) []:=by
 have fi:=a8u t hs find
 rw [a2F h f0 hf] at fi
 have re:=a7h t hs h find f f0 hf
 have hm:=h.m
 have rl2:(K6 t f.kind f.mv.toNat).length<=t.ev.moves.length:=Nat.le_trans (List.length_filter_le _ _) (x7 _)
 have m1:((K6 t f.kind f.mv.toNat).map (a5e t f.kind)).length=(K6 t f.kind f.mv.toNat).length:=by simp
 generalize K6 t f.kind f.mv.toNat=l at re m1 rl2
 (refine ac Tryz.func34 ?_;(conv=>whnf);repeat ((first|refine b0x ?_|refine zy ?_);conv=>whnf))
 repeat' (first|refine zz ?_|refine qp fi ?_|refine qp re ?_|refine zd ?_ ?_<;>intro h<;>try omega|refine zy ?_|fail)<;>conv=>whnf
 refine d6 c8 (fun k=>([J,J,J,J,J,J,S.c (C.own 0 0 (C9 (l.take k)).length true),J,J,J,J,J,J,J,J,ar4 t f.kind l,a7 .i64 l.length,a7 .i64 k,J,J,J,J,J,J,J,J,J,J],[o4 (C9 (l.take k))])) l.length (fun _=>True) [none] trivial
  ⟨rfl,rfl,⟨⟨rfl,rfl⟩,trivial⟩,⟨⟨rfl,rfl,rfl⟩,rfl,c6 (by simp),rfl,trivial⟩⟩ ?_
 intro k hk _
 have lN:=a0Q (l.take k)
 have lT:(l.take k).length=k:=by rw [List.length_take];omega
 have lA:(C9 (l.take k)).length<=(o4 (C9 (l.take k))).rows.length:=by show _<=(toC _).length;simp [toC]
 by_cases hlt:k<l.length
 ·obtain ⟨i,hi⟩:∃i,l[k]? =some i:=⟨_,lg0 hlt⟩
  rw [b18 hi]
  conv=>whnf
  repeat' (first|refine zz ?_|refine qp toC ?_|refine b8 hi ?_|refine o7 lA (by simp [toC];omega) ?_|refine zd ?_ ?_<;>intro h<;>try omega|refine zy ?_|fail)<;>conv=>whnf
  all_goals first
   |omega
   |(refine ⟨hlt,trivial,[some 2],rfl,rfl,⟨a8 (rows:=(C9 (l.take k)++[(i:Int)]).map d9) rfl rfl rfl ?_ rfl,trivial⟩,⟨⟨rfl,rfl,?_,fun h=>h⟩,rfl,rfl,c6 (by omega),trivial⟩⟩
     ·exact y5 (f:=d9) (x:=(i:Int)) rfl
     ·simp [toC])
 ·have hke:k=l.length:=by omega
  subst hke
  rw [lg4 (Nat.le_refl _)] at *
  conv=>whnf
  repeat' (first|refine zz ?_|refine zd ?_ ?_<;>intro h<;>try omega|refine zy ?_|fail)<;>conv=>whnf
  all_goals first
   |omega
   |exact k5 ⟨(show VC _ (fun id=>E1 [] id=true) (C.own 0 0 _ true) _ from t5 (k:=o4 (C9 l)) rfl rfl (fun h=>h) rfl rfl (by simp)),rfl,trivial⟩
def a6M (t:e7) (find mv:Int):Bool:=a0v t find && decide (0<=mv) && decide (mv<t.ev.moves.length)
theorem aE5 (t:e7) (hs:t.Sized) (find mv:Int):a9 Tryz.prog 107 [trS t,a7 .i64 find,a7 .i64 mv] [] (f5 (a6M t find mv)) []:=by
 have fi:=a8u t hs find
 have m1:(t.ev.moves.map p6.row).length=t.ev.moves.length:=by simp
 unfold a6M
 cases hb:a0v t find with
 |true=>
  rw [hb] at fi
  rw [Bool.true_and]
  (refine ac Tryz.func107 ?_;(conv=>whnf);repeat ((first|refine b0x ?_|refine zy ?_);conv=>whnf))
  repeat' (first|refine zz ?_|refine qp fi ?_|refine zd ?_ ?_<;>intro h<;>try omega|refine zy ?_|fail)<;>conv=>whnf
  all_goals first
   |omega
   |(refine b9 ?_;symm;simp only [Bool.and_eq_true,decide_eq_true_eq,Bool.and_eq_false_iff,decide_eq_false_iff_not];omega)
 |false=>
  rw [hb] at fi
  rw [Bool.false_and,Bool.false_and]
  (refine ac Tryz.func107 ?_;(conv=>whnf);repeat ((first|refine b0x ?_|refine zy ?_);conv=>whnf))
  repeat' (first|refine zz ?_|refine qp fi ?_|refine zd ?_ ?_<;>intro h<;>try omega|refine zy ?_|fail)<;>conv=>whnf
  all_goals first
   |omega
   |exact b9 rfl
noncomputable def a5v (t:e7) (kind:Int) (g:Nat) (l:List Nat):Option Nat:=l.find? fun i=>(isA t kind i).getD g false
noncomputable def b4L (t:e7) (kind:Int) (o:Option Nat):S:=match o with
 |some i=>.tup [a7 .i64 i,j8 ((a5c t kind i).map fz),f5 true]
 |none=>.tup [a7 .i64 0,.c (.t (.sl 0 .nil [])),f5 false]
set_option maxHeartbeats 4000000 in
theorem al8 (t:e7) (hs:t.Sized) (h:QT t) (find:Int) (f:L7) (f0:0<=find) (hf:t.finds[find.toNat]? =some f) (g:Nat) (hg:g<t.ev.moves.length):
 a9 Tryz.prog 42 [trS t,a7 .i64 find,a7 .i64 g] [] (b4L t f.kind (a5v t f.kind g (K6 t f.kind f.mv.toNat))) []:=by
 have kn:=aE5 t hs find g
 have hk:a6M t find g=true:=by unfold a6M;rw [a2F h f0 hf,decide_eq_true (by omega),decide_eq_true (by omega)];rfl
 rw [hk] at kn
 have re:=a7h t hs h find f f0 hf
 have hm:=h.m
 have rl2:(K6 t f.kind f.mv.toNat).length<=t.ev.moves.length:=Nat.le_trans (List.length_filter_le _ _) (x7 _)
 have m1:((K6 t f.kind f.mv.toNat).map (a5e t f.kind)).length=(K6 t f.kind f.mv.toNat).length:=by simp
 generalize K6 t f.kind f.mv.toNat=l at re m1 rl2
 (refine ac Tryz.func42 ?_;(conv=>whnf);repeat ((first|refine b0x ?_|refine zy ?_);conv=>whnf))
 repeat' (first|refine zz ?_|refine qp kn ?_|refine qp re ?_|refine zd ?_ ?_<;>intro h<;>try omega|refine zy ?_|fail)<;>conv=>whnf
 refine d6 c8 (fun k=>([J,J,a7 .i64 g,J,J,J,J,J,J,J,J,J,J,J,J,J,J,J,ar4 t f.kind l,a7 .i64 l.length,a7 .i64 k,J,J,J,J,J,J,J,J,J,J,J,J,J],[])) l.length (fun k=>a5v t f.kind g (l.drop k)=a5v t f.kind g l) [] rfl
  ⟨rfl,rfl,trivial,⟨rfl,rfl,c6 (by simp),rfl,trivial⟩⟩ ?_
 intro k hk hI
 by_cases hlt:k<l.length
 ·obtain ⟨i,hi⟩:∃i,l[k]? =some i:=⟨_,lg0 hlt⟩
  have hd:l.drop k=i::l.drop (k+1):=by rw [List.drop_eq_getElem_cons hlt];rw [lg0 hlt] at hi;injection hi with hi;rw [hi]
  have iA:=aq7 t f.kind i
  obtain ⟨b,hb⟩:∃b,(isA t f.kind i)[g]? =some b:=⟨_,lg0 (by omega)⟩
  have hbd:(isA t f.kind i).getD g false=b:=by rw [lg3,hb];rfl
  have gb:∀{K:List T->Prop},K [tb b]->∃row,0<=(g:Int)∧((isA t f.kind i).map a1v)[(g:Int).toNat]? =some row∧K row:=fun hK=>b8 (f:=a1v) hb hK
  unfold a5v at hI
  rw [hd,List.find?_cons,hbd] at hI
  cases b with
  |true=>
   have e:a5v t f.kind g l=some i:=by unfold a5v;rw [← hI]
   rw [e]
   unfold b4L
   conv=>whnf
   repeat' (first|refine zz ?_|refine b8 hi ?_|refine gb ?_|refine zd ?_ ?_<;>intro h<;>try omega|refine zy ?_|fail)<;>conv=>whnf
   all_goals first
    |omega
    |exact k5 ⟨rfl,rfl,rfl,trivial⟩
  |false=>
   conv=>whnf
   repeat' (first|refine zz ?_|refine b8 hi ?_|refine gb ?_|refine zd ?_ ?_<;>intro h<;>try omega|refine zy ?_|fail)<;>conv=>whnf
   all_goals first
    |omega
    |exact ⟨hlt,hI,[],rfl,rfl,trivial,⟨rfl,rfl,rfl,c6 (by omega),trivial⟩⟩
 ·have hke:k=l.length:=by omega
  subst hke
  have e:a5v t f.kind g l=none:=by rw [← hI,List.drop_length];rfl
  rw [e]
  unfold b4L
  conv=>whnf
  repeat' (first|refine zz ?_|refine zd ?_ ?_<;>intro h<;>try omega|refine zy ?_|fail)<;>conv=>whnf
  all_goals first
   |omega
   |exact k5 ⟨rfl,rfl,rfl,trivial⟩
theorem a5Q {H:Hp} {p:Nat->Prop} {id:Nat} {l:List Int} (hp:p id) (hk:H[id]? =some (o4 l)):VC H p (.own id 0 l.length true) (F8 l):=
 t5 (k:=o4 l) hp hk (fun h=>h) rfl rfl (by simp)
theorem b0W (t:e7) (kind:Int) (i g:Nat) (hg:g<t.ev.moves.length+t.ev.places.length):
 a9 Tryz.prog 80 [.agg [.t (ti i),.t (a6A (isA t kind i)),.t (B4 ((a5c t kind i).map fz))],.c (.t (aE7 g))] [] (f5 ((isA t kind i).getD g false)) []:=by
 have iA:=aq7 t kind i
 obtain ⟨b,hb⟩:∃b,(isA t kind i)[g]? =some b:=⟨_,lg0 (by omega)⟩
 have hbd:(isA t kind i).getD g false=b:=by rw [lg3,hb];rfl
 rw [hbd]
 cases b<;>
 ·(refine ac Tryz.func80 ?_;(conv=>whnf);repeat ((first|refine b0x ?_|refine zy ?_);conv=>whnf))
  repeat' (first|refine zz ?_|refine b8 (f:=a1v) hb ?_|refine zd ?_ ?_<;>intro h<;>try omega|refine zy ?_|fail)<;>conv=>whnf
  all_goals first
   |omega
   |exact b9 rfl
theorem aT1 (t:e7) (kind:Int) (l:List Nat) (hl:l.length<=1000000) (fg:FuncId) (caps:List T) (g:Nat) (hg:∀i ∈ l,a9 Tryz.prog fg (.agg [.t (ti i),.t (a6A (isA t kind i)),.t (B4 ((a5c t kind i).map fz))]::caps.map fun x=>.c (.t x)) [] (f5 ((isA t kind i).getD g false)) []):
 a9 Tryz.prog 148 [ar4 t kind l,.c (.t (.fn (.func fg) caps))] [] (a7 .i64 (B7 (fun i=>(isA t kind i).getD g false) l 0)) []:=by
 have l1:(l.map (a5e t kind)).length=l.length:=by simp
 (refine ac Tryz.func148 ?_;(conv=>whnf);repeat (refine zy ?_;conv=>whnf))
 repeat' (first|refine zz ?_|refine zd ?_ ?_<;>intro h<;>try omega|refine zy ?_|fail)<;>conv=>whnf
 refine d6 c8 (fun k=>([ar4 t kind l,S.c (C.t (T.fn (.func fg) caps)),J,J,J,J,J,a7 .i64 l.length,a7 .i64 k,J,J,J,J,J,J,J,J,J,J],[])) l.length (fun k=>B7 (fun i=>(isA t kind i).getD g false) (l.drop k) k=B7 (fun i=>(isA t kind i).getD g false) l 0) [] rfl
  ⟨rfl,rfl,trivial,⟨g9 rfl,g9 rfl,c6 (by simp),rfl,trivial⟩⟩ ?_
 intro k hk hI
 by_cases hlt:k<l.length
 ·obtain ⟨r,hr⟩:∃r,l[k]? =some r:=⟨_,lg0 hlt⟩
  have hd:l.drop k=r::l.drop (k+1):=by
   rw [List.drop_eq_getElem_cons hlt]
   rw [lg0 hlt] at hr
   injection hr with hr
   rw [hr]
  have hgr:=hg r (lg2 hr)
  have ha:(S.agg [.t (ti r),.t (a6A (isA t kind r)),.t (B4 ((a5c t kind r).map fz))]::caps.map fun x=>S.c (C.t x)).all S.isT=true:=by simp [S.isT,C.isT]
  rw [hd] at hI
  have hI:(if (isA t kind r).getD g false then (k:Int) else B7 (fun i=>(isA t kind i).getD g false) (l.drop (k+1)) (k+1))=B7 (fun i=>(isA t kind i).getD g false) l 0:=hI
  cases hq:(isA t kind r).getD g false with
  |true=>
   rw [hq] at hgr hI
   conv=>whnf
   repeat' (first|refine zz ?_|refine .inl ⟨_,_,x4 hgr ha rfl,?_⟩|refine b8 hr ?_|refine zd ?_ ?_<;>intro h<;>try omega|refine zy ?_|fail)<;>conv=>whnf
   all_goals first
    |omega
    |exact i6 hI
  |false=>
   rw [hq] at hgr hI
   conv=>whnf
   repeat' (first|refine zz ?_|refine .inl ⟨_,_,x4 hgr ha rfl,?_⟩|refine b8 hr ?_|refine zd ?_ ?_<;>intro h<;>try omega|refine zy ?_|fail)<;>conv=>whnf
   all_goals first
    |omega
    |exact ⟨hlt,by simpa using hI,[],rfl,rfl,trivial,⟨rfl,rfl,rfl,rfl,trivial⟩⟩
 ·have hke:k=l.length:=by omega
  subst hke
  rw [List.drop_of_length_le (Nat.le_refl _)] at hI
  conv=>whnf
  repeat' (first|refine zz ?_|refine zd ?_ ?_<;>intro h<;>try omega|refine zy ?_|fail)<;>conv=>whnf
  all_goals first
   |omega
   |exact i6 hI
theorem ae8 (t:e7) (kind:Int) (l:List Nat) (hl:l.length<=1000000) (g:Nat) (hg:g<t.ev.moves.length+t.ev.places.length):
 a9 Tryz.prog 79 [ar4 t kind l,.c (.t (.fn (.func 80) [aE7 g]))] [] (f5 (l.any fun i=>(isA t kind i).getD g false)) []:=by
 have ix:=aT1 t kind l hl 80 [aE7 g] g (fun i _=>b0W t kind i g hg)
 (refine ac Tryz.func79 ?_;(conv=>whnf);repeat (refine zy ?_;conv=>whnf))
 repeat' (first|refine zz ?_|refine qp ix ?_|refine zd ?_ ?_<;>intro h<;>try omega|refine zy ?_|fail)<;>conv=>whnf
 all_goals (refine b9 ?_;rw [← a31 (fun i=>(isA t kind i).getD g false) l 0];symm;first|exact decide_eq_true (by omega)|exact decide_eq_false (by omega))
noncomputable def a0t (t:e7) (kind:Int) (mv:Nat) (k:Nat):List Nat:=(List.range k).filter fun g=>J1 t kind mv g
noncomputable def L0 (t:e7) (kind:Int) (mv k:Nat):List Nat:=(a0t t kind mv k).filter fun g=>decide (g<t.ev.moves.length)
noncomputable def E0 (t:e7) (kind:Int) (mv k:Nat):List Nat:=((a0t t kind mv k).filter fun g=>!decide (g<t.ev.moves.length)).map fun g=>g - t.ev.moves.length
theorem a7H (t:e7) (kind:Int) (mv k:Nat):a0t t kind mv (k+1)=if J1 t kind mv k=true then a0t t kind mv k++[k] else a0t t kind mv k:=by
 unfold a0t
 rw [List.range_succ,List.filter_append]
 cases h:J1 t kind mv k<;>simp [h]
theorem aC3 (t:e7) (kind:Int) (mv k:Nat):L0 t kind mv (k+1)=if J1 t kind mv k=true then (if k<t.ev.moves.length then L0 t kind mv k++[k] else L0 t kind mv k) else L0 t kind mv k:=by
 unfold L0
 rw [a7H]
 by_cases h:J1 t kind mv k=true
 ·rw [if_pos h,if_pos h,List.filter_append]
  by_cases h2:k<t.ev.moves.length<;>simp [h2]
 ·rw [if_neg h,if_neg h]
theorem av2 (t:e7) (kind:Int) (mv k:Nat):E0 t kind mv (k+1)=if J1 t kind mv k=true then (if k<t.ev.moves.length then E0 t kind mv k else E0 t kind mv k++[k - t.ev.moves.length]) else E0 t kind mv k:=by
 unfold E0
 rw [a7H]
 by_cases h:J1 t kind mv k=true
 ·rw [if_pos h,if_pos h,List.filter_append,List.map_append]
  by_cases h2:k<t.ev.moves.length<;>simp [h2]
 ·rw [if_neg h,if_neg h]
theorem ab7 (t:e7) (kind:Int) (mv k:Nat):(a0t t kind mv k).length<=k:=by
 unfold a0t;exact Nat.le_trans (List.length_filter_le _ _) (by simp)
theorem a54 (t:e7) (kind:Int) (mv k:Nat):(L0 t kind mv k).length<=k:=Nat.le_trans (List.length_filter_le _ _) (ab7 _ _ _ _)
theorem a7N (t:e7) (kind:Int) (mv k:Nat):(E0 t kind mv k).length<=k:=by
 unfold E0;rw [List.length_map];exact Nat.le_trans (List.length_filter_le _ _) (ab7 _ _ _ _)
theorem aw4 (l:List Nat) (k:Nat):C9 (l++[k])=C9 l++[(k:Int)]:=by simp [C9]
noncomputable def F6 (t:e7) (kind:Int) (mv:Nat):List Nat:=L0 t kind mv (t.ev.moves.length+t.ev.places.length)
noncomputable def D6 (t:e7) (kind:Int) (mv:Nat):List Nat:=E0 t kind mv (t.ev.moves.length+t.ev.places.length)
set_option maxHeartbeats 8000000 in
theorem aG0 (t:e7) (hs:t.Sized) (h:QT t) (find:Int) (f:L7) (f0:0<=find) (hf:t.finds[find.toNat]? =some f):
 a9 Tryz.prog 23 [trS t,a7 .i64 find] [] (.tup [.c (.own 0 0 (C9 (F6 t f.kind f.mv.toNat)).length true),.c (.own 1 0 (C9 (D6 t f.kind f.mv.toNat)).length true),a7 .i64 0]) [o4 (C9 (F6 t f.kind f.mv.toNat)),o4 (C9 (D6 t f.kind f.mv.toNat))]:=by
 have fi:=a8u t hs find
 rw [a2F h f0 hf] at fi
 have re:=a7h t hs h find f f0 hf
 have hm:=h.m
 have hp:=h.p
 have rl2:(K6 t f.kind f.mv.toNat).length<=t.ev.moves.length:=Nat.le_trans (List.length_filter_le _ _) (x7 _)
 have m1:(t.ev.moves.map p6.row).length=t.ev.moves.length:=by simp
 have m2:(t.ev.places.map C8.row).length=t.ev.places.length:=by simp
 generalize hN:t.ev.moves.length+t.ev.places.length=N
 (refine ac Tryz.func23 ?_;(conv=>whnf);repeat ((first|refine b0x ?_|refine zy ?_);conv=>whnf))
 repeat' (first|refine zz ?_|refine qp fi ?_|refine qp re ?_|refine zd ?_ ?_<;>intro h<;>try omega|refine zy ?_|fail)<;>conv=>whnf
 refine d6 c8 (fun k=>([J,J,J,J,S.c (C.own 0 0 (C9 (L0 t f.kind f.mv.toNat k)).length true),S.c (C.own 1 0 (C9 (E0 t f.kind f.mv.toNat k)).length true),J,a7 .i64 t.ev.moves.length,ar4 t f.kind (K6 t f.kind f.mv.toNat),J,J,J,J,J,J,J,J,J,J,J,J,J,J,J,J,J,a7 .i64 N,a7 .i64 k,J,J,J,J,J,J,J,J,J,J,J,J,J,J,J,J,J,J,J,J,J,J],[o4 (C9 (L0 t f.kind f.mv.toNat k)),o4 (C9 (E0 t f.kind f.mv.toNat k))])) N (fun _=>True) [none,none] trivial
  ⟨rfl,rfl,⟨⟨rfl,rfl⟩,⟨rfl,rfl⟩,trivial⟩,⟨⟨rfl,rfl,rfl⟩,⟨rfl,rfl,rfl⟩,c6 (by simp),rfl,c6 (by simp;omega),rfl,trivial⟩⟩ ?_
 intro k hk _
 have c1:=a54 t f.kind f.mv.toNat k
 have c2:=a7N t f.kind f.mv.toNat k
 have d1:=a0Q (L0 t f.kind f.mv.toNat k)
 have d2:=a0Q (E0 t f.kind f.mv.toNat k)
 by_cases hlt:k<N
 ·have lA:(C9 (L0 t f.kind f.mv.toNat k)).length<=(o4 (C9 (L0 t f.kind f.mv.toNat k))).rows.length:=by show _<=(toC _).length;simp [toC]
  have lB:(C9 (E0 t f.kind f.mv.toNat k)).length<=(o4 (C9 (E0 t f.kind f.mv.toNat k))).rows.length:=by show _<=(toC _).length;simp [toC]
  have ct:=ae8 t f.kind (K6 t f.kind f.mv.toNat) (by omega) k (by omega)
  have eR:((K6 t f.kind f.mv.toNat).any fun i=>(isA t f.kind i).getD k false)=J1 t f.kind f.mv.toNat k:=rfl
  rw [eR] at ct
  rw [aC3,av2]
  generalize L0 t f.kind f.mv.toNat k=X at *
  generalize E0 t f.kind f.mv.toNat k=Y at *
  have va:a0U [o4 (C9 X),o4 (C9 Y),{ mode:=.live,elem:=3,size:=1,rows:=[[.t (ti k)]],box:=true }] (fun _=>True) [ar4 t f.kind (K6 t f.kind f.mv.toNat),.c (.fn (.func 80) [.ptr 2 0 0])] [ar4 t f.kind (K6 t f.kind f.mv.toNat),.c (.t (.fn (.func 80) [aE7 k]))]:=
   ⟨b0P,aA3 (show _∧True from ⟨a9U (k:={ mode:=.live,elem:=3,size:=1,rows:=[[.t (ti k)]],box:=true }) (row:=[.t (ti k)]) trivial rfl (fun h=>h) rfl (b2f [ti k]),trivial⟩),trivial⟩
  cases hb:J1 t f.kind f.mv.toNat k with
  |false=>
   rw [hb] at ct
   conv=>whnf
   repeat' (first|refine zz ?_|refine .inl ⟨_,_,j3 ct va rfl,?_⟩|refine zd ?_ ?_<;>intro h<;>try omega|refine zy ?_|fail)<;>conv=>whnf
   all_goals first
    |omega
    |exact ⟨hlt,trivial,[some 0,some 1],rfl,rfl,⟨c9 (c7 _),c9 (c7 _),trivial⟩,⟨⟨rfl,rfl,rfl,fun h=>h⟩,⟨rfl,rfl,rfl,fun h=>h⟩,rfl,rfl,rfl,c6 (by omega),trivial⟩⟩
  |true=>
   rw [hb] at ct
   rw [if_pos rfl,if_pos rfl]
   by_cases hkm:k<t.ev.moves.length
   ·rw [if_pos hkm,if_pos hkm,aw4]
    conv=>whnf
    repeat' (first|refine zz ?_|refine qp toC ?_|refine .inl ⟨_,_,j3 ct va rfl,?_⟩|refine o7 lA (by simp [toC];omega) ?_|refine zd ?_ ?_<;>intro h<;>try omega|refine zy ?_|fail)<;>conv=>whnf
    all_goals first
     |omega
     |(refine ⟨hlt,trivial,[some 3,some 1],rfl,rfl,⟨a8 (rows:=(C9 X++[(k:Int)]).map d9) rfl rfl rfl ?_ rfl,c9 (c7 _),trivial⟩,⟨⟨rfl,rfl,?_,fun h=>h⟩,⟨rfl,rfl,rfl,fun h=>h⟩,rfl,rfl,rfl,c6 (by omega),trivial⟩⟩
       ·exact y5 (f:=d9) (x:=(k:Int)) rfl
       ·simp [toC])
   ·rw [if_neg hkm,if_neg hkm,aw4]
    have eP:((k - t.ev.moves.length:Nat):Int)=(k:Int) - (t.ev.moves.length:Int):=by omega
    rw [eP]
    conv=>whnf
    repeat' (first|refine zz ?_|refine qp toC ?_|refine .inl ⟨_,_,j3 ct va rfl,?_⟩|refine o7 lB (by simp [toC];omega) ?_|refine zd ?_ ?_<;>intro h<;>try omega|refine zy ?_|fail)<;>conv=>whnf
    all_goals first
     |omega
     |(refine ⟨hlt,trivial,[some 0,some 3],rfl,rfl,⟨c9 (c7 _),a8 (rows:=(C9 Y++[(k:Int) - (t.ev.moves.length:Int)]).map d9) rfl rfl rfl ?_ rfl,trivial⟩,⟨⟨rfl,rfl,rfl,fun h=>h⟩,⟨rfl,rfl,?_,fun h=>h⟩,rfl,rfl,rfl,c6 (by omega),trivial⟩⟩
       ·exact y5 (f:=d9) (x:=(k:Int) - (t.ev.moves.length:Int)) rfl
       ·simp [toC])
 ·have hke:k=N:=by omega
  subst hke
  have e1:F6 t f.kind f.mv.toNat=L0 t f.kind f.mv.toNat k:=by unfold F6;rw [hN]
  have e2:D6 t f.kind f.mv.toNat=E0 t f.kind f.mv.toNat k:=by unfold D6;rw [hN]
  rw [e1,e2]
  generalize L0 t f.kind f.mv.toNat k=X at *
  generalize E0 t f.kind f.mv.toNat k=Y at *
  conv=>whnf
  repeat' (first|refine zz ?_|refine zd ?_ ?_<;>intro h<;>try omega|refine zy ?_|fail)<;>conv=>whnf
  all_goals first
   |omega
   |exact ⟨⟨[some 0,some 1],rfl,rfl,⟨c9 (c7 _),c9 (c7 _),trivial⟩,⟨⟨rfl,rfl,rfl,fun h=>h⟩,⟨rfl,rfl,rfl,fun h=>h⟩,rfl,trivial⟩⟩⟩
theorem ac1 (t:e7) (hs:t.Sized) (h:QT t) (find:Int) (f:L7) (f0:0<=find) (hf:t.finds[find.toNat]? =some f):
 a9 Tryz.prog 23 [trS t,a7 .i64 find] [] (.tup [d8 (C9 (F6 t f.kind f.mv.toNat)),d8 (C9 (D6 t f.kind f.mv.toNat)),a7 .i64 0]) []:=by
 refine b0A (aG0 t hs h find f f0 hf) (k5 ⟨(show VC _ (fun id=>E1 [] id=true) _ _ from a5Q rfl rfl),(show VC _ (fun id=>E1 [] id=true) _ _ from a5Q rfl rfl),rfl,trivial⟩)

def a5D (q:Int->Bool) (xs:List Int) (i0:Nat):Nat->List Int × Nat
 |0=>(xs,i0)
 |m+1=>if q (xs.getD (i0+1+m) 0)=true then a5D q xs i0 m else ((a5D q xs i0 m).1.set (a5D q xs i0 m).2 (xs.getD (i0+1+m) 0),(a5D q xs i0 m).2+1)
structure b9A (q:Int->Bool) (xs:List Int) (j:Nat) (r:List Int) (i:Nat):Prop where
 len:r.length=xs.length
 lt:i<j
 tk:r.take i=(xs.take j).filter fun x=>!q x
 dr:r.drop j=xs.drop j
theorem an4 {q:Int->Bool} {xs:List Int} {i0:Nat} (h0:i0<xs.length) (h1:(xs.take i0).filter (fun x=>!q x)=xs.take i0) (h2:q (xs.getD i0 0)=true):
 ∀m,i0+1+m<=xs.length->b9A q xs (i0+1+m) (a5D q xs i0 m).1 (a5D q xs i0 m).2
 |0,hm=>by
  refine ⟨rfl,by show i0<_;omega,?_,rfl⟩
  show xs.take i0=_
  rw [Nat.add_zero,List.take_add_one,List.filter_append,h1,lg0 h0]
  rw [lg3,lg0 h0] at h2
  simp at h2
  simp [h2]
 |m+1,hm=>by
  have ih:=an4 h0 h1 h2 m (by omega)
  obtain ⟨a1,a2,a3,a4⟩:=ih
  unfold a5D
  generalize hj:i0+1+m=j at *
  have ej:i0+1+(m+1)=j+1:=by omega
  rw [ej]
  have hjl:j<xs.length:=by omega
  generalize a5D q xs i0 m=p at *
  obtain ⟨r,i⟩:=p
  simp only at a1 a2 a3 a4 ⊢
  have hx:xs.getD j 0=xs[j]:=by rw [lg3,lg0 hjl];rfl
  rw [hx]
  have ht:xs.take (j+1)=xs.take j++[xs[j]]:=by rw [List.take_add_one,lg0 hjl];rfl
  by_cases hq:q xs[j]=true
  ·rw [if_pos hq]
   refine ⟨a1,by show i<_;omega,?_,?_⟩
   ·show r.take i=_
    rw [a3,ht,List.filter_append];simp [hq]
   ·show r.drop (j+1)=_
    rw [← List.drop_drop,a4,List.drop_drop]
  ·rw [if_neg hq]
   refine ⟨by simp [a1],by show i+1<_;omega,?_,?_⟩
   ·show (r.set i xs[j]).take (i+1)=_
    rw [List.take_add_one,List.take_set_of_le (Nat.le_refl _),List.getElem?_set_self (by omega),a3,ht,List.filter_append]
    have:q xs[j]=false:=by simpa using hq
    simp [this]
   ·show (r.set i xs[j]).drop (j+1)=_
    rw [List.drop_set_of_lt (by omega),←List.drop_drop,a4,List.drop_drop]
theorem a7J {q:Int->Bool}:∀(xs:List Int) (k:Nat),(B7 q xs k=-1∧xs.filter (fun x=>!q x)=xs)∨∃i,B7 q xs k=((k+i:Nat):Int)∧i<xs.length∧(xs.take i).filter (fun x=>!q x)=xs.take i∧q (xs.getD i 0)=true
 |[],k=>.inl ⟨rfl,rfl⟩
 |x::r,k=>by
  unfold B7
  cases h:q x with
  |true=>exact .inr ⟨0,by simp,by simp,rfl,by simpa using h⟩
  |false=>
   rcases a7J (q:=q) r (k+1) with ⟨h1,h2⟩|⟨i,h1,h2,h3,h4⟩
   ·exact .inl ⟨by simpa using h1,by simp [h,h2]⟩
   ·refine .inr ⟨i+1,?_,by simp;omega,by simp [h,h3],by simpa using h4⟩
    show (if false=true then (k:Int) else B7 q r (k+1))=_
    rw [if_neg (by decide),h1];congr 1;omega
theorem aP4 (xs:List Int) (hl:xs.length<=1000000) (fg:FuncId) (caps:List T) (q:Int->Bool) (hg:∀x ∈ xs,a9 Tryz.prog fg (a7 .i64 x::caps.map fun x=>.c (.t x)) [] (f5 (q x)) []):
 a9 Tryz.prog 175 [d8 xs,.c (.t (.fn (.func fg) caps))] [] (a7 .i64 (B7 q xs 0)) []:=by
 have l1:(xs.map d9).length=xs.length:=by simp
 (refine ac Tryz.func175 ?_;(conv=>whnf);repeat (refine zy ?_;conv=>whnf))
 repeat' (first|refine zz ?_|refine zd ?_ ?_<;>intro h<;>try omega|refine zy ?_|fail)<;>conv=>whnf
 refine d6 c8 (fun k=>([d8 xs,S.c (C.t (T.fn (.func fg) caps)),J,J,J,J,J,a7 .i64 xs.length,a7 .i64 k,J,J,J,J,J,J,J,J,J,J],[])) xs.length (fun k=>B7 q (xs.drop k) k=B7 q xs 0) [] rfl
  ⟨rfl,rfl,trivial,⟨g9 rfl,g9 rfl,c6 (by simp),rfl,trivial⟩⟩ ?_
 intro k hk hI
 by_cases hlt:k<xs.length
 ·obtain ⟨r,hr⟩:∃r,xs[k]? =some r:=⟨_,lg0 hlt⟩
  have hd:xs.drop k=r::xs.drop (k+1):=by
   rw [List.drop_eq_getElem_cons hlt]
   rw [lg0 hlt] at hr
   injection hr with hr
   rw [hr]
  have hgr:=hg r (lg2 hr)
  have ha:(a7 .i64 r::caps.map fun x=>S.c (C.t x)).all S.isT=true:=by simp [S.isT,C.isT,a7]
  rw [hd] at hI
  have hI:(if q r then (k:Int) else B7 q (xs.drop (k+1)) (k+1))=B7 q xs 0:=hI
  cases hq:q r with
  |true=>
   rw [hq] at hgr hI
   conv=>whnf
   repeat' (first|refine zz ?_|refine .inl ⟨_,_,x4 hgr ha rfl,?_⟩|refine b8 hr ?_|refine zd ?_ ?_<;>intro h<;>try omega|refine zy ?_|fail)<;>conv=>whnf
   all_goals first
    |omega
    |exact i6 hI
  |false=>
   rw [hq] at hgr hI
   conv=>whnf
   repeat' (first|refine zz ?_|refine .inl ⟨_,_,x4 hgr ha rfl,?_⟩|refine b8 hr ?_|refine zd ?_ ?_<;>intro h<;>try omega|refine zy ?_|fail)<;>conv=>whnf
   all_goals first
    |omega
    |exact ⟨hlt,by simpa using hI,[],rfl,rfl,trivial,⟨rfl,rfl,rfl,rfl,trivial⟩⟩
 ·have hke:k=xs.length:=by omega
  subst hke
  rw [List.drop_of_length_le (Nat.le_refl _)] at hI
  conv=>whnf
  repeat' (first|refine zz ?_|refine zd ?_ ?_<;>intro h<;>try omega|refine zy ?_|fail)<;>conv=>whnf
  all_goals first
   |omega
   |exact i6 hI
theorem as0 {l:List Int} {n:Nat} {v:Int} {K:List C->Prop} (h:l[n]? =some v) (k:K [C.t (ti v)]):∃row,(o4 l).rows[n]? =some row∧K row:=⟨_,by show (toC (l.map d9))[n]? =_;simp [toC,d9,h],k⟩
theorem b1n {l:List Int} {i n:Nat} {v:Int} (h:n=i):s8 (o4 l) ((o4 l).rows.set n [C.t (ti v)])=o4 (l.set i v):=by
 subst h
 unfold s8
 show ({ mode:=_,elem:=_,size:=_,rows:=(toC (l.map d9)).set n _,box:=_,app:=_ }:Blk)=_
 have:(toC (l.map d9)).set n [C.t (ti v)]=toC ((l.set n v).map d9):=by
  unfold toC
  rw [List.map_set,List.map_set];rfl
 rw [this]
set_option maxHeartbeats 8000000 in
theorem aH4 (xs ys:List Int) (hl:xs.length<=1000000) (fg:FuncId) (caps:List T) (q:Int->Bool) (hg:∀x ∈ xs,a9 Tryz.prog fg (a7 .i64 x::caps.map fun x=>.c (.t x)) [] (f5 (q x)) []):
 ∃zs,zs.take (xs.filter fun x=>!q x).length=(xs.filter fun x=>!q x)∧zs.length=xs.length∧a9 Tryz.prog 105 [.c (.own 0 0 xs.length true),.c (.t (.fn (.func fg) caps))] [o4 xs,o4 ys] (.c (.own 0 0 (xs.filter fun x=>!q x).length true)) [o4 zs,o4 ys]:=by
 have ix:=aP4 xs hl fg caps q hg
 have ha:(caps.map fun x=>S.c (C.t x)).all S.isT=true:=by simp [S.isT,C.isT]
 rcases a7J (q:=q) xs 0 with ⟨h1,h2⟩|⟨i0,h1,h2,h3,h4⟩
 ·rw [h1] at ix
  rw [h2]
  refine ⟨xs,lg4 (Nat.le_refl _),rfl,?_⟩
  (refine ac Tryz.func105 ?_;(conv=>whnf);repeat (refine zy ?_;conv=>whnf))
  repeat' (first|refine zz ?_|refine .inl ⟨_,_,a93 ix ⟨a0q (a5Q trivial rfl),ae1,trivial⟩ rfl,?_⟩|refine zd ?_ ?_<;>intro h<;>try omega|refine zy ?_|fail)<;>conv=>whnf
  all_goals first
   |omega
   |exact ⟨⟨[some 0,some 1],rfl,rfl,⟨c9 (c7 _),c9 (c7 _),trivial⟩,⟨rfl,rfl,rfl,fun h=>h⟩⟩⟩
 ·rw [h1,Nat.zero_add] at ix
  have hD:=an4 h2 h3 h4
  obtain ⟨n,hn⟩:∃n,i0+1+n=xs.length:=⟨xs.length - (i0+1),by omega⟩
  have hE:=hD n (by omega)
  generalize hF:a5D q xs i0 n=rn at hE
  obtain ⟨rs,i⟩:=rn
  obtain ⟨e1,e2,e3,e4⟩:=hE
  simp only at e1 e2 e3 e4
  rw [hn,lg4 (Nat.le_refl _)] at e3
  have e5:(rs.take i).length=i:=by rw [List.length_take];omega
  have hz:rs.take i++List.replicate (xs.length - i) (0:Int)=rs.take i++List.replicate (xs.length - i) (0:Int):=rfl
  refine ⟨rs.take i++List.replicate (xs.length - i) 0,?_,by rw [List.length_append,e5,List.length_replicate];omega,?_⟩
  ·rw [← e3,List.take_append_of_le_length (by omega),e5,List.take_take,Nat.min_self]
  have eC:y8 (0+(i:Int).toNat) ((xs.length:Int) - (i:Int)).toNat (toC (rs.map d9)) (List.replicate ((xs.length:Int) - (i:Int)).toNat [C.t (ti 0)])=toC ((rs.take i++List.replicate (xs.length - i) 0).map d9):=by
   have x1:0+(i:Int).toNat=i:=by omega
   have x2:((xs.length:Int) - (i:Int)).toNat=xs.length - i:=by omega
   rw [x1,x2]
   unfold y8 toC
   rw [lg4 (l:=List.replicate _ _) (by simp),List.length_replicate,List.drop_of_length_le (by simp;omega)]
   simp [d9,List.map_take]
  have eL:(xs.filter fun x=>!q x).length=i:=by rw [← e3];exact e5
  rw [eL]
  have hcl:=fun x hx=>hg x hx
  (refine ac Tryz.func105 ?_;(conv=>whnf);repeat (refine zy ?_;conv=>whnf))
  repeat' (first|refine zz ?_|refine .inl ⟨_,_,a93 ix ⟨a0q (a5Q trivial rfl),ae1,trivial⟩ rfl,?_⟩|refine zd ?_ ?_<;>intro h<;>try omega|refine zy ?_|fail)<;>conv=>whnf
  refine d6 c8 (fun m=>([S.c (C.own 0 0 xs.length true),S.c (C.t (T.fn (.func fg) caps)),J,J,J,a7 .i64 (a5D q xs i0 m).2,a7 .i64 (i0+1+m),J,J,J,J,J,J,J,J,J,J,J,J,J,J,J,J,J,J,J,J,J,J,J,J,J,J,J,J,J,J,J,J,J,J,J],[o4 (a5D q xs i0 m).1,o4 ys])) n (fun _=>True) [some 0,some 1] trivial
   ⟨rfl,rfl,⟨c9 (c7 _),c9 (c7 _),trivial⟩,⟨⟨rfl,rfl,rfl,fun h=>h⟩,g9 rfl,rfl,c6 (by omega),trivial⟩⟩ ?_
  intro m hm _
  have hDm:=hD m (by omega)
  generalize hG:a5D q xs i0 m=p at hDm
  obtain ⟨r,k⟩:=p
  obtain ⟨d1,d2,d3,d4⟩:=hDm
  simp only at d1 d2 d3 d4 ⊢
  by_cases hlt:m<n
  ·obtain ⟨v,hv⟩:∃v,xs[i0+1+m]? =some v:=⟨_,lg0 (by omega)⟩
   have hvd:xs.getD (i0+1+m) 0=v:=by rw [lg3,hv];rfl
   have hrv:r[i0+1+m]? =some v:=by
    have:=congrArg (fun l=>l[0]?) d4
    simpa [List.getElem?_drop,hv] using this
   have gv:r[0+((i0+1+m:Nat):Int).toNat]? =some v:=by rw [Nat.zero_add,Int.toNat_natCast];exact hrv
   have hgv:=hg v (lg2 hv)
   have ha2:(a7 .i64 v::caps.map fun x=>S.c (C.t x)).all S.isT=true:=by simp [S.isT,C.isT,a7]
   have eG:a5D q xs i0 (m+1)=if q v=true then (r,k) else (r.set k v,k+1):=by
    conv=>lhs;unfold a5D
    rw [hG,hvd]
   rw [eG]
   cases hq:q v with
   |true=>
    rw [hq] at hgv
    rw [if_pos rfl]
    conv=>whnf
    repeat' (first|refine zz ?_|refine .inl ⟨_,_,x4 hgv ha2 rfl,?_⟩|refine as0 gv ?_|refine zd ?_ ?_<;>intro h<;>try omega|refine zy ?_|fail)<;>conv=>whnf
    all_goals first
     |omega
     |exact ⟨hlt,trivial,[some 0,some 1],rfl,rfl,⟨c9 (c7 _),c9 (c7 _),trivial⟩,⟨⟨rfl,rfl,rfl,fun h=>h⟩,rfl,rfl,c6 (by omega),trivial⟩⟩
   |false=>
    rw [hq] at hgv
    rw [if_neg (by decide)]
    have eB:=b1n (l:=r) (v:=v) (show 0+(k:Int).toNat=k by omega)
    obtain ⟨u,hu⟩:∃u,r[0+(k:Int).toNat]? =some u:=⟨_,lg0 (by omega)⟩
    conv=>whnf
    repeat' (first|refine zz ?_|refine .inl ⟨_,_,x4 hgv ha2 rfl,?_⟩|refine as0 gv ?_|refine as0 hu ?_|refine zd ?_ ?_<;>intro h<;>try omega|refine zy ?_|fail)<;>conv=>whnf
    all_goals first
     |omega
     |exact ⟨hlt,trivial,[some 0,some 1],rfl,rfl,⟨⟨rfl,rfl,rfl,.inl ⟨congrArg Blk.rows eB,(congrArg Blk.rows eB) ▸ c7 _⟩⟩,c9 (c7 _),trivial⟩,⟨⟨rfl,rfl,rfl,fun h=>h⟩,rfl,c6 (by omega),c6 (by omega),trivial⟩⟩
  ·have hme:m=n:=by omega
   subst hme
   rw [hG] at hF
   injection hF with f1 f2
   subst f1 f2
   have rl2:(toC (r.map d9)).length=xs.length:=by simp [toC,d1]
   have s1:(0:Int)<=(k:Int)∧(k:Int)<=(xs.length:Int)∧(xs.length:Int)<=(xs.length:Int):=by omega
   have s2:(0:Int)<=0∧(0:Int)<=(k:Int)∧(k:Int)<=(xs.length:Int):=by omega
   have s3:0+(k:Int).toNat+((xs.length:Int) - (k:Int)).toNat<=(o4 r).rows.length:=by show _<=(toC (r.map d9)).length;omega
   conv=>whnf
   repeat' (first|refine zz ?_|refine ⟨s1,?_⟩|refine ⟨s2,?_⟩|refine ⟨s3,?_⟩|refine zd ?_ ?_<;>intro h<;>try omega|refine zy ?_|fail)<;>conv=>whnf
   all_goals first
    |omega
    |exact ⟨⟨[some 0,some 1],rfl,rfl,⟨a8 (rows:=(r.take k++List.replicate (xs.length - k) (0:Int)).map d9) rfl rfl rfl eC rfl,c9 (c7 _),trivial⟩,⟨rfl,rfl,by show ((k:Int) - 0).toNat=k;omega,fun h=>h⟩⟩⟩
def a2C (e:Ev) (i:Int):Bool:=match e.moves[i.toNat]? with
 |some m=>decide (m9 e m.dst=5)
 |none=>false
theorem b4u (t:e7) (h1:o9 t=0) (i:Nat) (hi:i<t.ev.moves.length):
 a9 Tryz.prog 104 [a7 .i64 i,.c (.t (T.ptr (trT t)))] [] (f5 (!a2C t.ev i)) []:=by
 have hck:=(p8 h1).1
 obtain ⟨m,hm⟩:∃m,t.ev.moves[i]? =some m:=⟨_,lg0 hi⟩
 have hmo:=B3 hck (lg2 hm)
 have ms:=a10 hmo
 obtain ⟨p,hp⟩:∃p,t.ev.places[m.dst.toNat]? =some p:=⟨_,lg0 (by omega)⟩
 have hk0:m9 t.ev m.dst=p.kind:=by unfold m9;rw [hp];rfl
 have e:a2C t.ev i=decide (p.kind=5):=by unfold a2C;rw [Int.toNat_natCast,hm,←hk0]
 rw [e]
 (refine ac Tryz.func104 ?_;(conv=>whnf);repeat (refine zy ?_;conv=>whnf))
 repeat' (first|refine zz ?_|refine b8 hm ?_|refine p4 ms.1 hp ?_|refine zd ?_ ?_<;>intro h<;>try omega|refine zy ?_|fail)<;>conv=>whnf
 all_goals first
  |omega
  |(refine b9 ?_;symm;simp;omega)
  |(refine b9 ?_;symm;simp;assumption)
noncomputable def a84 (t:e7) (kind:Int) (mv:Nat):List Int:=(C9 (F6 t kind mv)).filter fun x=>!!a2C t.ev x
theorem b4O {H:Hp} {p:Nat->Prop} {id n:Nat} {l m:List Int} (hp:p id) (hk:H[id]? =some (o4 l)) (hm:l.take n=m) (hn:m.length=n):VC H p (.own id 0 n true) (F8 m):=by
 refine ⟨hp,o4 l,hk,fun h=>h,rfl,?_,?_⟩
 ·show 0+n<=(toC (l.map d9)).length
  have:=List.length_take (i:=n) (l:=l)
  rw [hm] at this
  simp [toC];omega
 ·show ((toC (l.map d9)).drop 0).take n=toC (m.map d9)
  rw [List.drop_zero,←hm]
  simp [toC,List.map_take]
theorem b2k (t:e7) (hs:t.Sized) (h:QT t) (find:Int) (f:L7) (f0:0<=find) (hf:t.finds[find.toNat]? =some f):
 a9 Tryz.prog 39 [trS t,a7 .i64 find] [] (.tup [d8 (a84 t f.kind f.mv.toNat),a7 .i64 0]) []:=by
 have lo:=aG0 t hs h find f f0 hf
 have hm:=h.m
 have hp:=h.p
 have hlen:=a54 t f.kind f.mv.toNat (t.ev.moves.length+t.ev.places.length)
 have hlen2:(C9 (F6 t f.kind f.mv.toNat)).length<=1000000:=by rw [a0Q];show (L0 _ _ _ _).length<=_;omega
 obtain ⟨zs,z1,z2,de⟩:=aH4 (C9 (F6 t f.kind f.mv.toNat)) (C9 (D6 t f.kind f.mv.toNat)) hlen2 104 [T.ptr (trT t)] (fun x=>!a2C t.ev x) (fun x hx=>by
  obtain ⟨i,hi,rfl⟩:=List.mem_map.1 hx
  have hi:=(List.mem_filter.1 hi).2
  exact b4u t h.h i (of_decide_eq_true hi))
 have eS:a84 t f.kind f.mv.toNat=(C9 (F6 t f.kind f.mv.toNat)).filter fun x=>!!a2C t.ev x:=rfl
 rw [eS]
 generalize C9 (F6 t f.kind f.mv.toNat)=X at *
 generalize C9 (D6 t f.kind f.mv.toNat)=Y at *
 generalize (X.filter fun x=>!!a2C t.ev x)=Z at *
 (refine ac Tryz.func39 ?_;(conv=>whnf);repeat ((first|refine b0x ?_|refine zy ?_);conv=>whnf))
 repeat' (first|refine zz ?_|refine .inr ⟨_,_,lo,?_⟩|refine .inr ⟨_,_,de,?_⟩|refine zd ?_ ?_<;>intro h<;>try omega|refine zy ?_|fail)<;>conv=>whnf
 all_goals first
  |omega
  |exact k5 ⟨(show VC _ (fun id=>E1 [] id=true) _ _ from b4O rfl rfl z1 rfl),rfl,trivial⟩
theorem a7s {α:Type} {l:List α} {k:Nat} {x:α} (h:l[k]? =some x):l.take (k+1)=l.take k++[x]:=by
 rw [List.take_add_one,h];rfl
theorem aL0 (a b:List Int) (ha:a.length<=1000000) (hb:b.length<=1000000):a9 Tryz.prog 103 [d8 a,d8 b] [] (f5 (decide (a=b))) []:=by
 have l1:(a.map d9).length=a.length:=by simp
 have l2:(b.map d9).length=b.length:=by simp
 (refine ac Tryz.func103 ?_;(conv=>whnf);repeat (refine zy ?_;conv=>whnf))
 repeat' (first|refine zz ?_|refine zd ?_ ?_<;>intro h<;>try omega|refine zy ?_|fail)<;>conv=>whnf
 ·refine b9 (decide_eq_false ?_).symm
  intro hab;subst hab;exact h rfl
 have hab:a.length=b.length:=by omega
 refine d6 c8 (fun k=>([d8 a,d8 b,J,J,J,a7 .i64 k,J,J,J,J,J,J,J,J,J,J,J,J,J,J,J,J,J,J,J,J],[])) a.length (fun k=>a.take k=b.take k) [] rfl
  ⟨rfl,rfl,trivial,⟨g9 rfl,g9 rfl,c6 rfl,trivial⟩⟩ ?_
 intro k hk hI
 conv=>whnf
 repeat' (first|refine zz ?_|refine zd ?_ ?_<;>intro h<;>try omega|refine zy ?_|fail)<;>conv=>whnf
 ·have hlt:k<a.length:=by omega
  obtain ⟨x,hx⟩:∃x,a[k]? =some x:=⟨_,lg0 hlt⟩
  obtain ⟨y,hy⟩:∃y,b[k]? =some y:=⟨_,lg0 (by omega)⟩
  repeat' (first|refine zz ?_|refine b8 hx ?_|refine b8 hy ?_|refine zd ?_ ?_<;>intro h<;>try omega|refine zy ?_|fail)<;>conv=>whnf
  ·have hne:x≠y:=‹x≠y›
   refine b9 (decide_eq_false ?_).symm
   intro hq;subst hq;rw [hx] at hy;injection hy with hy;exact hne hy
  ·have hxy:x=y:=by omega
   refine ⟨hlt,?_,[],rfl,rfl,trivial,⟨g9 rfl,g9 rfl,rfl,trivial⟩⟩
   rw [a7s hx,a7s hy,hI,hxy]
 ·refine b9 (decide_eq_true ?_).symm
  rw [lg4 (by omega),lg4 (by omega)] at hI
  exact hI
def a2y (e:Ev) (d:Int) (m i:Nat):Bool:=((e.moves.take i).drop (m+1)).all fun x=>!(decide (x.src=d) && x.all)
def au0 (e:Ev) (bl:List Bool) (d:Int) (m i:Nat) (x:p6):Bool:=decide (m<i) && decide (x.src=d) && a2y e d m i && !(bl.getD i true)
theorem a6r {e:Ev} {d:Int} {m:Nat}:a2y e d m (m+1)=true:=by
 unfold a2y;rw [List.drop_eq_nil_of_le (by simp;omega)];rfl
theorem a85 {e:Ev} {d:Int} {m k:Nat} {x:p6} (h:e.moves[k]? =some x) (hm:m<k):a2y e d m (k+1)=(a2y e d m k && !(decide (x.src=d) && x.all)):=by
 unfold a2y
 have hlt:=(lg1 h).1
 rw [a7s h,List.drop_append_of_le_length (by simp;omega),List.all_append]
 simp
def a76 (t:e7) (find lift:Int):Bool:=a0v t find && decide (0<=lift∧lift.toNat ∈ i5 t.ev)
theorem ai3 {t:e7} {find:Int} (h:a0v t find=true):o9 t=0∧0<=find∧∃f,t.finds[find.toNat]? =some f:=by
 unfold a0v at h
 simp only [Bool.and_eq_true,decide_eq_true_eq] at h
 exact ⟨h.1.1,h.1.2,_,lg0 (by omega)⟩
theorem ab5 {s:f7} (h:a0s s):aD8 s:=by
 have hn:=a0h h.r
 have h9:=h.n
 refine ⟨by have:=h.l;omega,fun w hw=>?_⟩
 obtain ⟨i,hi,rfl⟩:=List.getElem_of_mem hw
 have h1:=A7 (W4 h.r (lg0 hi)).1
 have h2:=h.i _ (List.getElem_mem hi)
 exact ⟨by omega,fun t ht=>by have:=M6 h2.1 t ht;omega,by have:=a5Y h2.2;omega⟩
def ad7 (v:Nat):List (Int × Rat):=[((v:Int),((-1:Int):Rat))]
def b6L (t:e7) (kind:Int) (a b i:Nat) (y:List Fr):Bool:=aN1 (p9 t kind i) (ad7 a) y || aN1 (p9 t kind i) (ad7 b) y
def a97 (t:e7) (kind:Int) (a b:Nat) (pf:List (List Fr)):Bool:=decide (pf.length=(i5 t.ev).length) && (List.range (i5 t.ev).length).all fun k=>b6L t kind a b ((i5 t.ev).getD k 0) (pf.getD k [])
theorem b4v {t:e7} (h:QT t) {find:Int} {f:L7} (f0:0<=find) (hf:t.finds[find.toNat]? =some f) {g:Nat} (hg:g<t.ev.moves.length):a6M t find g=true:=by
 unfold a6M;rw [a2F h f0 hf,decide_eq_true (by omega),decide_eq_true (by omega)];rfl
end Go.Proofs.YtdbogogfeffjlaaGreat
