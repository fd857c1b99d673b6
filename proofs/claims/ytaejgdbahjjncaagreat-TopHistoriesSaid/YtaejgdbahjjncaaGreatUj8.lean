/- Part 8. -/
import Derived.Test.YtaejgdbahjjncaaGreatUj7
namespace Go.Proofs.YtaejgdbahjjncaaGreat
set_option linter.unusedVariables false
set_option linter.unusedSimpArgs false
set_option maxRecDepth 100000
open Go.RowKit
open St1 St2 St3 St4 St5 St6 St7 St8 StA StB
theorem au5 {H:Hp} {p:Nat->Prop} {N w:Nat} {f:Nat->Nat->Rat} {T:Hp} (hH:H=a4S N w f++T) (hp:∀i,p i):VX H p (.own 0 0 N true) (b0f (a1e N w f)):=by
 have h0:H[0]? =some (b2i N w):=by rw [hH];rfl
 have hi:∀i,i<N->H[i+1]? =some (a6e (T6 w (f i))):=fun i h=>by
  rw [hH]
  show ((a1e N w f).map a6e++T)[i]? =_
  rw [lbb (by simp [j0];exact h),lba,T8 h];rfl
 refine .own (k:=b2i N w) (hp 0) h0 (fun h=>h) rfl (by simp [j0]) ?_ (fun i _=>.own (i+1) 0 w true) ?_ ?_
 ·intro r hr
  obtain ⟨l,_,rfl⟩:=lbx.1 hr
  rfl
 ·intro i j c hc
  obtain ⟨row,h1,h2⟩:=C1 hc
  have hil:i<N:=by have:=(lbe.1 h1).1;simpa [j0] using this
  rw [lba,T8 hil] at h1
  injection h1 with h1
  subst h1
  have hj:j=0:=by have:=(lbe.1 h2).1;simp [L3] at this;omega
  subst hj
  rw [Nat.zero_add]
  exact B1 (row:=[C.own (i+1) 0 w true]) (by simp [b2i,a3r,hil]) rfl
 ·intro i j c hc
  obtain ⟨row,h1,h2⟩:=C1 hc
  have hil:i<N:=by have:=(lbe.1 h1).1;simpa [j0] using this
  rw [lba,T8 hil] at h1
  injection h1 with h1
  subst h1
  have hj:j=0:=by have:=(lbe.1 h2).1;simp [L3] at this;omega
  subst hj
  injection h2 with h2
  subst h2
  exact .vc (t8 (hp _) (hi i hil) (fun h=>h) rfl rfl (by simp [a4K]))
theorem a8N {N w:Nat} {f:Nat->Nat->Rat}:∀k ∈ a4S N w f,k.mode=.live∧k.app=false∧okB (N+1) k:=by
 intro k hk
 refine ⟨?_,?_,a1c k hk⟩
 ·rcases lbA.1 hk with rfl|hk
  ·rfl
  ·obtain ⟨l,_,rfl⟩:=lbx.1 hk;rfl
 ·rcases lbA.1 hk with rfl|hk
  ·rfl
  ·obtain ⟨l,_,rfl⟩:=lbx.1 hk;rfl
theorem aG0 {N w:Nat} {f:Nat->Nat->Rat}:∀k ∈ a4S N w f,k.mode≠.old∧okB (N+1) k:=fun k hk=>by
 obtain ⟨h1,_,h3⟩:=a8N k hk
 exact ⟨(by rw [h1];intro h;cases h),h3⟩
theorem a6E {n:Nat} {G:List (List Rat)} (h:a6a n (hz G)):∀l ∈ G,∀x ∈ l,rl x<=n:=by
 intro l hl x hx
 have:=h.l3 (l.map fz) (lbx.2 ⟨l,hl,rfl⟩) (fz x) (lbx.2 ⟨x,hx,rfl⟩)
 exact Nat.max_le.2 this
theorem a19 {e:Ev} (h:m8 e=0):1<=e.mats∧e.mats<=6∧e.places.length<=100∧e.moves.length<=200:=by
 obtain ⟨h1,h2,_⟩:=V6 h
 unfold a9e at h1
 simp only [Bool.or_eq_false_iff,lbK] at h1
 omega
theorem a7Y {G:List (List Rat)} {k:Nat} {l:List Rat} (h:G[k]? =some l):(hz G)[k]? =some (l.map fz):=by simp [hz,h]
set_option maxHeartbeats 4000000 in
theorem b4e (e:Ev) (hh:List (List Fr)) (hs:e.Sized) (hS:a6a 200 hh):b7 Tryz.prog 26 [evS e,Z9 hh] [] (a8 .i64 (W6 e hh)) []:=by
 have ck:=S1 e hs
 have sh:=aH1 e hh ⟨hS.l1,hS.l2,fun l hl f hf=>by have:=hS.l3 l hl f hf;omega⟩ (by have:=hs.s2;omega)
 unfold W6
 by_cases h0:m8 e≠0
 ·rw [if_pos h0]
  (refine ac Tryz.func26 ?_;(conv=>whnf);repeat ((first|refine b0x ?_|refine zy ?_);conv=>whnf))
  repeat' (first|refine zx ?_|refine qp ck ?_|refine zd ?_ ?_<;>intro h<;>try omega|fail)<;>conv=>whnf
  all_goals first
   |omega
   |exact v8 rfl
 rw [if_neg h0]
 have h0:m8 e=0:=by omega
 cases hsb:P9 e hh with
 |false=>
  rw [hsb] at sh
  (refine ac Tryz.func26 ?_;(conv=>whnf);repeat ((first|refine b0x ?_|refine zy ?_);conv=>whnf))
  repeat' (first|refine zx ?_|refine qp ck ?_|refine qp sh ?_|refine zd ?_ ?_<;>intro h<;>try omega|fail)<;>conv=>whnf
  all_goals first
   |omega
   |(exfalso;simp_all;done)
   |exact v8 rfl
 |true=>
  rw [hsb] at sh
  obtain ⟨G,rfl,hG⟩:=a3V hsb
  have e1:(if true=true then a44 e ((hz G).map (·.map fv)) else 2)=a44 e G:=by rw [be6];rfl
  rw [e1]
  have hB:=a6E hS
  obtain ⟨b1,b2,b3,b4⟩:=a19 h0
  obtain ⟨w,hw⟩:∃w:Nat,e.mats=w:=⟨e.mats.toNat,by omega⟩
  generalize hN:e.places.length=N at b3
  have no:=b3N e N w hN hw (by omega) (by omega)
  have m2:(e.moves.map j6.row).length=e.moves.length:=by simp
  (refine ac Tryz.func26 ?_;(conv=>whnf);repeat ((first|refine b0x ?_|refine zy ?_);conv=>whnf))
  repeat' (first|refine zx ?_|refine qp ck ?_|refine qp sh ?_|refine .inr ⟨_,_,no,?_⟩|refine o8 ?_|refine zd ?_ ?_<;>intro h<;>try omega|fail)<;>conv=>whnf
  refine f8 c7 (fun k=>([J,Z9 (hz G),S.c (C.t (T.ptr (evT e))),J,J,S.c (C.own 0 0 N true)]++Jn 14++[S.c (C.t (Q7 e.moves)),a8 .i64 e.moves.length,a8 .i64 k]++Jn 49,a4S N w (stk e G k))) e.moves.length (fun k=>a4v e G k (e.moves.drop k)=a44 e G) (idR (N+1)) rfl ?_ ?_
  ·refine X5 O6 (by simp) a1c (fun i _=>rfl) ?_
   exact ⟨rfl,rfl,⟨j4 (by omega),rfl,rfl,fun h=>h⟩,i5 rfl,c6 (by simp),rfl,trivial⟩
  intro k hk hI
  by_cases hlt:k<e.moves.length
  ·obtain ⟨x,hx⟩:∃x,e.moves[k]? =some x:=⟨_,lbf hlt⟩
   obtain ⟨l,hl⟩:∃l,G[k]? =some l:=⟨_,lbf (by rw [hG.len];exact hlt)⟩
   have hd:e.moves.drop k=x::e.moves.drop (k+1):=by
    rw [List.drop_eq_getElem_cons hlt]
    rw [lbf hlt] at hx
    injection hx with hx
    rw [hx]
   have hmem:=lbm hl
   have hlB:=hB l hmem
   have hlw:l.length=w:=by have:=hG.wid l hmem;omega
   have hgd:G.getD k []=l:=by rw [lbl,hl];rfl
   rw [hd] at hI
   have hI:(if Z4 e x l (stk e G k) k≠0 then Z4 e x l (stk e G k) k else a4v e G (k+1) (e.moves.drop (k+1)))=a44 e G:=by
    rw [← hgd];exact hI
   have hm:=O2 h0 (lbm hx)
   have ms:=a0i hm
   have md:=a6p hm
   obtain ⟨s,hsn⟩:∃s:Nat,x.src=s:=⟨x.src.toNat,by omega⟩
   obtain ⟨d,hdn⟩:∃d:Nat,x.dst=d:=⟨x.dst.toNat,by omega⟩
   have hsd:s≠d:=by
    have:x.src≠x.dst:=by unfold O0 at hm;simp only [lbM,lbI] at hm;exact hm.1.1.1.1.1.2
    omega
   obtain ⟨pl,hpl⟩:∃pl,e.places[s]? =some pl:=⟨_,lbf (by omega)⟩
   have hF:∀p m,rl (stk e G k p m)<=50000:=fun p m=>by
    have:=aw8 (e:=e) hB (by decide) k p m
    have h2:=lbT (200+1) (show k<=200 by omega)
    omega
   have ng:=aS9 l hlB (by omega)
   have tk:=b89 e x N w (stk e G k) l hlw (by omega) s hsn (by omega) pl hpl hlB hF
   have su:=bd8 l hlB (by omega)
   have bs:rl (S5 l)<=50000:=by
    have:=b0p hlB
    have h2:=lbT (200+1) (show l.length<=6 by omega)
    omega
   have we:=b27 e x (S5 l) (by omega) hs
   have pu:=b9w e k l (S5 l) bs hlB (by omega) (by omega) (V6 h0).2.2.2.2.2.2 hs (by omega)
   have ca:=b0Q N w (stk e G k) x l hlw (by omega) s d hsn hdn (by omega) (by omega) hsd hlB hF
   have hst:stk e G (k+1)=A8 x (fun m=>l.getD m 0) (stk e G k):=by
    conv=>lhs;unfold stk
    rw [hx]
    simp only
    congr 1
    funext m
    show (G.getD k []).getD m 0=_
    rw [hgd]
   rw [← hst] at ca
   have fin3:∀(c:Int) (H1:Hp),Z4 e x l (stk e G k) k=c->c≠0->Fin 0 (a8 .i64 c) H1 (a8 .i64 (a44 e G)) []:=fun c H1 h hc=>v8 (by rw [← hI,h,if_pos hc])
   cases hng:l.any (fun v=>decide (v<0)) with
   |true=>
    have hse:Z4 e x l (stk e G k) k=3:=by unfold Z4;rw [hng];rfl
    rw [hng] at ng
    conv=>whnf
    repeat' (first|refine zx ?_|refine qp ng ?_|refine d7 hx ?_|refine d7 (a7Y hl) ?_|refine j2 (j0 _ _ _) ?_|refine P1 (j0 _ _ _) ?_|refine o8 ?_|refine i8 ?_|refine R8 ?_|refine w6 (j0 _ _ _) ?_|refine g7 (j0 _ _ _) ?_|refine R6 (j0 _ _ _) ?_|refine g9 (j0 _ _ _) ?_|refine zd ?_ ?_<;>intro h<;>try omega|fail)<;>conv=>whnf
    all_goals first
     |omega
     |exact fin3 _ _ hse (by decide)
   |false=>
    rw [hng] at ng
    by_cases htk:a2v e (stk e G k) x l=0
    ·cases hwe:Z5 e x (S5 l) with
     |false=>
      have hse:Z4 e x l (stk e G k) k=24:=by unfold Z4;rw [hng,htk,hwe];rfl
      rw [hwe] at we
      conv=>whnf
      repeat' (first|refine zx ?_|refine qp ng ?_|refine qp su ?_|refine qp we ?_|refine .inl ⟨_,_,a2f tk ⟨.inl ⟨_,_,rfl,rfl,au5 rfl (fun _=>trivial)⟩,.inr (b1y e),.inr (ad8 x.row),.inr a8M,trivial⟩ rfl,?_⟩|refine d7 hx ?_|refine d7 (a7Y hl) ?_|refine j2 (j0 _ _ _) ?_|refine P1 (j0 _ _ _) ?_|refine o8 ?_|refine i8 ?_|refine R8 ?_|refine w6 (j0 _ _ _) ?_|refine g7 (j0 _ _ _) ?_|refine R6 (j0 _ _ _) ?_|refine g9 (j0 _ _ _) ?_|refine zd ?_ ?_<;>intro h<;>try omega|fail)<;>conv=>whnf
      all_goals first
       |omega
       |exact fin3 _ _ hse (by decide)
     |true=>
      rw [hwe] at we
      cases hpu:a4r e.purities k l (S5 l) with
      |false=>
       have hse:Z4 e x l (stk e G k) k=13:=by unfold Z4;rw [hng,htk,hwe,hpu];rfl
       rw [hpu] at pu
       conv=>whnf
       repeat' (first|refine zx ?_|refine qp ng ?_|refine qp su ?_|refine qp we ?_|refine qp pu ?_|refine .inl ⟨_,_,a2f tk ⟨.inl ⟨_,_,rfl,rfl,au5 rfl (fun _=>trivial)⟩,.inr (b1y e),.inr (ad8 x.row),.inr a8M,trivial⟩ rfl,?_⟩|refine d7 hx ?_|refine d7 (a7Y hl) ?_|refine j2 (j0 _ _ _) ?_|refine P1 (j0 _ _ _) ?_|refine o8 ?_|refine i8 ?_|refine R8 ?_|refine w6 (j0 _ _ _) ?_|refine g7 (j0 _ _ _) ?_|refine R6 (j0 _ _ _) ?_|refine g9 (j0 _ _ _) ?_|refine zd ?_ ?_<;>intro h<;>try omega|fail)<;>conv=>whnf
       all_goals first
        |omega
        |exact fin3 _ _ hse (by decide)
      |true=>
       have hse:Z4 e x l (stk e G k) k=0:=by unfold Z4;rw [hng,htk,hwe,hpu];rfl
       rw [hpu] at pu
       rw [hse,if_neg (by decide)] at hI
       have hok:[S.c (.own 0 0 N true),aj1 x,j7 (l.map fz)].all (okS (N+1))=true:=by
        simp [okS,okC,okL,j6.cs,j6.row]
       conv=>whnf
       repeat' (first|refine zx ?_|refine qp ng ?_|refine qp su ?_|refine qp we ?_|refine qp pu ?_|refine .inl ⟨_,_,a2f tk ⟨.inl ⟨_,_,rfl,rfl,au5 rfl (fun _=>trivial)⟩,.inr (b1y e),.inr (ad8 x.row),.inr a8M,trivial⟩ rfl,?_⟩|refine .inr ⟨_,_,a2p _ ca O6 O6 hok a8N aG0 rfl rfl,?_⟩|refine d7 hx ?_|refine d7 (a7Y hl) ?_|refine j2 (j0 _ _ _) ?_|refine P1 (j0 _ _ _) ?_|refine o8 ?_|refine i8 ?_|refine R8 ?_|refine w6 (j0 _ _ _) ?_|refine g7 (j0 _ _ _) ?_|refine R6 (j0 _ _ _) ?_|refine g9 (j0 _ _ _) ?_|refine zd ?_ ?_<;>intro h<;>try omega|fail)<;>conv=>whnf
       all_goals try omega
       refine ⟨hlt,hI,idR (N+1),a6c O6 (by simp) a1c ?_⟩
       exact ⟨rfl,rfl,⟨j4 (by omega),rfl,rfl,fun h=>h⟩,rfl,rfl,rfl,trivial⟩
    ·have hse:Z4 e x l (stk e G k) k=a2v e (stk e G k) x l:=by unfold Z4;rw [hng,if_neg (by simp),if_pos htk]
     conv=>whnf
     repeat' (first|refine zx ?_|refine qp ng ?_|refine .inl ⟨_,_,a2f tk ⟨.inl ⟨_,_,rfl,rfl,au5 rfl (fun _=>trivial)⟩,.inr (b1y e),.inr (ad8 x.row),.inr a8M,trivial⟩ rfl,?_⟩|refine d7 hx ?_|refine d7 (a7Y hl) ?_|refine j2 (j0 _ _ _) ?_|refine P1 (j0 _ _ _) ?_|refine o8 ?_|refine i8 ?_|refine R8 ?_|refine w6 (j0 _ _ _) ?_|refine g7 (j0 _ _ _) ?_|refine R6 (j0 _ _ _) ?_|refine g9 (j0 _ _ _) ?_|refine zd ?_ ?_<;>intro h<;>try omega|fail)<;>conv=>whnf
     all_goals first
      |omega
      |exact fin3 _ _ hse htk
  ·have hke:k=e.moves.length:=by omega
   subst hke
   rw [lbo (lbQ _)] at hI
   have hI:(0:Int)=a44 e G:=hI
   conv=>whnf
   repeat' (first|refine zx ?_|refine o8 ?_|refine zd ?_ ?_<;>intro h<;>try omega|fail)<;>conv=>whnf
   all_goals first
    |omega
    |exact v8 hI
def unz (hh:List (List Fr)):List (List Rat):=hh.map (·.map fv)
theorem b5P (G:List (List Rat)):unz (hz G)=G:=be6 G
def a1U (e:Ev) (hh:List (List Fr)) (place upto:Int):List Fr:=
 if m8 e=0∧P9 e hh=true∧0<=place∧place<e.places.length∧0<=upto∧upto<=hh.length then T6 e.mats.toNat (stk e (unz hh) upto.toNat place.toNat) else []
theorem b9C (e:Ev) (G:List (List Rat)) (hG:a2n e G) (h0:m8 e=0) (hB:∀l ∈ G,∀x ∈ l,rl x<=200) {N w k:Nat} (hN:e.places.length=N) (hw:e.mats=w) {x:j6} {l:List Rat} (hx:e.moves[k]? =some x) (hl:G[k]? =some l):
 b7 Tryz.prog 78 [.c (.own 0 0 N true),aj1 x,j7 (l.map fz)] (a4S N w (stk e G k)) (.tup []) (a4S N w (stk e G (k+1))):=by
 obtain ⟨b1,b2,b3,b4⟩:=a19 h0
 have hlt:k<e.moves.length:=(lbe.1 hx).1
 have hmem:=lbm hl
 have hlB:=hB l hmem
 have hlw:l.length=w:=by have:=hG.wid l hmem;omega
 have hgd:G.getD k []=l:=by rw [lbl,hl];rfl
 have hm:=O2 h0 (lbm hx)
 have ms:=a0i hm
 have md:=a6p hm
 have hsd:x.src≠x.dst:=by unfold O0 at hm;simp only [lbM,lbI] at hm;exact hm.1.1.1.1.1.2
 have hF:∀p m,rl (stk e G k p m)<=50000:=fun p m=>by
  have:=aw8 (e:=e) hB (by decide) k p m
  have h2:=lbT (200+1) (show k<=200 by omega)
  omega
 have ca:=b0Q N w (stk e G k) x l hlw (by omega) x.src.toNat x.dst.toNat (by omega) (by omega) (by omega) (by omega) (by omega) hlB hF
 have hst:stk e G (k+1)=A8 x (fun m=>l.getD m 0) (stk e G k):=by
  conv=>lhs;unfold stk
  rw [hx]
  simp only
  congr 1
  funext m
  show (G.getD k []).getD m 0=_
  rw [hgd]
 rw [hst]
 exact ca
theorem b3e {N n:Nat} {x:j6} {l:List Fr}:[S.c (.own 0 0 N true),aj1 x,j7 l].all (okS (n+1))=true:=by
 simp [okS,okC,okL,j6.cs,j6.row]
set_option maxHeartbeats 4000000 in
theorem b64 (e:Ev) (hh:List (List Fr)) (place upto:Int) (hs:e.Sized) (hS:a6a 200 hh):b7 Tryz.prog 79 [evS e,Z9 hh,a8 .i64 place,a8 .i64 upto] [] (j7 (a1U e hh place upto)) []:=by
 have ck:=S1 e hs
 have sh:=aH1 e hh ⟨hS.l1,hS.l2,fun l hl f hf=>by have:=hS.l3 l hl f hf;omega⟩ (by have:=hs.s2;omega)
 have m3:(hh.map L3).length=hh.length:=by simp
 have m4:(e.places.map G2.row).length=e.places.length:=by simp
 by_cases h0:m8 e≠0
 ·have e1:a1U e hh place upto=[]:=by unfold a1U;rw [if_neg (fun h=>h0 h.1)]
  rw [e1]
  (refine ac Tryz.func79 ?_;(conv=>whnf);repeat ((first|refine b0x ?_|refine zy ?_);conv=>whnf))
  repeat' (first|refine zx ?_|refine qp ck ?_|refine zd ?_ ?_<;>intro h<;>try omega|fail)<;>conv=>whnf
  all_goals first
   |omega
   |exact j3 rfl
 have h0:m8 e=0:=by omega
 cases hsb:P9 e hh with
 |false=>
  have e1:a1U e hh place upto=[]:=by unfold a1U;rw [if_neg (fun h=>by rw [hsb] at h;exact absurd h.2.1 (by simp))]
  rw [e1]
  rw [hsb] at sh
  (refine ac Tryz.func79 ?_;(conv=>whnf);repeat ((first|refine b0x ?_|refine zy ?_);conv=>whnf))
  repeat' (first|refine zx ?_|refine qp ck ?_|refine qp sh ?_|refine zd ?_ ?_<;>intro h<;>try omega|fail)<;>conv=>whnf
  all_goals first
   |omega
   |(exfalso;simp_all;done)
   |exact j3 rfl
 |true=>
  rw [hsb] at sh
  by_cases hr:0<=place∧place<e.places.length∧0<=upto∧upto<=hh.length
  ·obtain ⟨G,rfl,hG⟩:=a3V hsb
   have e1:a1U e (hz G) place upto=T6 e.mats.toNat (stk e G upto.toNat place.toNat):=by unfold a1U;rw [if_pos ⟨h0,hsb,hr⟩,b5P]
   rw [e1]
   have hB:=a6E hS
   obtain ⟨b1,b2,b3,b4⟩:=a19 h0
   obtain ⟨w,hw⟩:∃w:Nat,e.mats=w:=⟨e.mats.toNat,by omega⟩
   obtain ⟨p,rfl⟩:∃p:Nat,place=p:=⟨place.toNat,by omega⟩
   obtain ⟨u,rfl⟩:∃u:Nat,upto=u:=⟨upto.toNat,by omega⟩
   have hu:u<=e.moves.length:=by have:=hG.len;simp [hz] at hr;omega
   generalize hN:e.places.length=N at b3 hr
   have no:=b3N e N w hN hw (by omega) (by omega)
   have m2:(e.moves.map j6.row).length=e.moves.length:=by simp
   have hwn:e.mats.toNat=w:=by omega
   rw [hwn]
   (refine ac Tryz.func79 ?_;(conv=>whnf);repeat ((first|refine b0x ?_|refine zy ?_);conv=>whnf))
   repeat' (first|refine zx ?_|refine qp ck ?_|refine qp sh ?_|refine .inr ⟨_,_,no,?_⟩|refine o8 ?_|refine a14 (by omega) (by omega) (by omega) ?_|refine zd ?_ ?_<;>intro h<;>try omega|fail)<;>conv=>whnf
   all_goals first
    |omega
    |(exfalso;simp_all;done)
    |skip
   refine f8 c7 (fun k=>([J,Z9 (hz G),a8 .i64 p,J,J,J,J,J,J,S.c (C.own 0 0 N true)]++Jn 37++[S.c (C.t (T.sl 6 .any ((e.moves.take u).map j6.row))),a8 .i64 u,a8 .i64 k]++Jn 16,a4S N w (stk e G k))) u (fun _=>True) (idR (N+1)) trivial ?_ ?_
   ·refine X5 O6 (by simp) a1c (fun i _=>rfl) ?_
    exact ⟨rfl,rfl,⟨j4 (by omega),rfl,rfl,fun h=>h⟩,i5 (by simp [X2,List.map_take]),c6 (by simp;omega),rfl,trivial⟩
   intro k hk _
   by_cases hlt:k<u
   ·obtain ⟨x,hx⟩:∃x,e.moves[k]? =some x:=⟨_,lbf (by omega)⟩
    obtain ⟨l,hl⟩:∃l,G[k]? =some l:=⟨_,lbf (by rw [hG.len];omega)⟩
    have hxt:(e.moves.take u)[k]? =some x:=by rw [lbi,if_pos hlt];exact hx
    have ca:=b9C e G hG h0 hB hN hw hx hl
    have hok:=b3e (N:=N) (n:=N) (x:=x) (l:=l.map fz)
    conv=>whnf
    repeat' (first|refine zx ?_|refine .inr ⟨_,_,a2p _ ca O6 O6 hok a8N aG0 rfl rfl,?_⟩|refine d7 hxt ?_|refine d7 (a7Y hl) ?_|refine j2 (j0 _ _ _) ?_|refine P1 (j0 _ _ _) ?_|refine o8 ?_|refine i8 ?_|refine R8 ?_|refine w6 (j0 _ _ _) ?_|refine g7 (j0 _ _ _) ?_|refine R6 (j0 _ _ _) ?_|refine g9 (j0 _ _ _) ?_|refine zd ?_ ?_<;>intro h<;>try omega|fail)<;>conv=>whnf
    all_goals try omega
    refine ⟨hlt,trivial,idR (N+1),a6c O6 (by simp) a1c ?_⟩
    exact ⟨rfl,rfl,⟨j4 (by omega),rfl,rfl,fun h=>h⟩,rfl,rfl,rfl,trivial⟩
   ·have hke:k=u:=by omega
    subst hke
    have eP:0+(p:Int).toNat=p:=by omega
    have eU:(k:Int).toNat=k:=by omega
    have eQ:(p:Int).toNat=p:=by omega
    rw [eU,eQ]
    conv=>whnf
    repeat' (first|refine zx ?_|refine o8 ?_|refine a6u eP (by omega) ?_|refine zd ?_ ?_<;>intro h<;>try omega|fail)<;>conv=>whnf
    all_goals try omega
    refine J7 (k:=a6e (T6 w (stk e G k p))) ?_ (by intro h;cases h) rfl rfl (by simp [a4K])
    show (a4S N w (stk e G k))[p+1]? =_
    rw [List.getElem?_cons_succ,lba,T8 (by omega)];rfl
  ·have e1:a1U e hh place upto=[]:=by unfold a1U;rw [if_neg (fun h=>hr h.2.2)]
   rw [e1]
   (refine ac Tryz.func79 ?_;(conv=>whnf);repeat ((first|refine b0x ?_|refine zy ?_);conv=>whnf))
   repeat' (first|refine zx ?_|refine qp ck ?_|refine qp sh ?_|refine .inr ⟨_,_,no,?_⟩|refine zd ?_ ?_<;>intro h<;>try omega|fail)<;>conv=>whnf
   all_goals first
    |omega
    |(exfalso;simp_all;done)
    |exact j3 rfl
abbrev k9 (l:List (Int × Rat)):S:=.c (.t (a2E l))
def ai5 (l:List (Int × Rat)):Nat->Int
 |0=>-1
 |k+1=>((l[k]?).map (·.1)).getD 0
theorem a9Z {l:List (Int × Rat)} {k:Nat} {t:Int × Rat} (h:l[k]? =some t):ai5 l (k+1)=t.1:=by simp [ai5,h]
theorem G9 (l:List (Int × Rat)) (n:Int) (hl:l.length<=1000000) (hB:∀t ∈ l,rl t.2<=200):b7 Tryz.prog 53 [k9 l,a8 .i64 n] [] (f7 (decide (0<=n) && d8 (-1) n l)) []:=by
 have m1:(l.map j9).length=l.length:=by simp
 by_cases h0:n<0
 ·rw [lbJ (by omega),Bool.false_and]
  (refine ac Tryz.func53 ?_;(conv=>whnf);repeat ((first|refine b0x ?_|refine zy ?_);conv=>whnf))
  repeat' (first|refine zx ?_|refine zd ?_ ?_<;>intro h<;>try omega|fail)<;>conv=>whnf
  all_goals first
   |omega
   |exact c9 rfl
 rw [lbH (by omega),Bool.true_and]
 (refine ac Tryz.func53 ?_;(conv=>whnf);repeat ((first|refine b0x ?_|refine zy ?_);conv=>whnf))
 repeat' (first|refine zx ?_|refine zd ?_ ?_<;>intro h<;>try omega|fail)<;>conv=>whnf
 all_goals try omega
 refine f8 c7 (fun k=>([J,a8 .i64 n,J,J,J,a8 .i64 (ai5 l k),J,J,J,J,k9 l,a8 .i64 l.length,a8 .i64 k]++Jn 22,[])) l.length (fun k=>d8 (-1) n l=d8 (ai5 l k) n (l.drop k)) [] rfl
  ⟨rfl,rfl,trivial,⟨rfl,rfl,rfl,c6 (by simp),rfl,trivial⟩⟩ ?_
 intro k hk hI
 by_cases hlt:k<l.length
 ·obtain ⟨t,ht⟩:∃t,l[k]? =some t:=⟨_,lbf hlt⟩
  obtain ⟨v,c⟩:=t
  have bc:=hB _ (lbm ht)
  simp only at bc
  have sg:=Y8 c (by omega)
  have sz:=a4C (x:=c)
  rw [aa3 ht,d8] at hI
  simp only at hI
  by_cases hok:ai5 l k<v∧v<n∧c≠0
  ·rw [lbH hok.1,lbH hok.2.1,lbH hok.2.2] at hI
   simp only [Bool.true_and] at hI
   have hne:sgR c≠0:=fun h=>hok.2.2 (sz.1 h)
   obtain ⟨q1,q2,_⟩:=hok
   conv=>whnf
   repeat' (first|refine zx ?_|refine qp sg ?_|refine d7 ht ?_|refine zd ?_ ?_<;>intro h<;>try omega|fail)<;>conv=>whnf
   all_goals first
    |omega
    |exact ⟨hlt,by rw [a9Z ht];exact hI,[],rfl,rfl,trivial,⟨rfl,c6 (by rw [a9Z ht]),rfl,rfl,rfl,trivial⟩⟩
  ·have hF:d8 (-1) n l=false:=by
    rw [hI]
    rw [← lbP]
    simp only [lbM,lbI]
    exact fun h=>hok ⟨h.1.1.1,h.1.1.2,h.1.2⟩
   rw [hF]
   have hor:v<=ai5 l k∨n<=v∨sgR c=0:=by
    by_cases q1:ai5 l k<v
    ·by_cases q2:v<n
     ·refine .inr (.inr (sz.2 ?_))
      by_cases q3:c=0
      ·exact q3
      ·exact absurd ⟨q1,q2,q3⟩ hok
     ·exact .inr (.inl (by omega))
    ·exact .inl (by omega)
   clear hI hok
   conv=>whnf
   repeat' (first|refine zx ?_|refine qp sg ?_|refine d7 ht ?_|refine zd ?_ ?_<;>intro h<;>try omega|fail)<;>conv=>whnf
   all_goals first
    |omega
    |exact c9 rfl
 ·rw [lbo (by omega)] at hI
  have hI:d8 (-1) n l=true:=hI
  rw [hI]
  conv=>whnf
  repeat' (first|refine zx ?_|refine zd ?_ ?_<;>intro h<;>try omega|fail)<;>conv=>whnf
  all_goals first
   |omega
   |exact c9 rfl
structure aj5 (s:g6):Prop where
 n0:s.rows.length<=1000000
 t:∀w ∈ s.rows,w.terms.length<=100∧(∀ t ∈ w.terms,rl t.2<=200)∧rl w.value<=200
theorem T3 (s:g6) (hb:aj5 s):b7 Tryz.prog 142 [S7 s] [] (f7 (i9 s)) []:=by
 have m1:(s.rows.map C8).length=s.rows.length:=by simp
 have l1:=hb.n0
 by_cases h0:¬(0<=s.n∧s.n<=1500∧s.rows.length<=6000)
 ·have e1:i9 s=false:=by
   unfold i9
   rw [← lbP]
   simp only [lbM,lbI]
   exact fun h=>h0 ⟨h.1.1.1,h.1.1.2,h.1.2⟩
  rw [e1]
  (refine ac Tryz.func142 ?_;(conv=>whnf);repeat ((first|refine b0x ?_|refine zy ?_);conv=>whnf))
  repeat' (first|refine zx ?_|refine zd ?_ ?_<;>intro h<;>try omega|fail)<;>conv=>whnf
  all_goals first
   |omega
   |exact c9 rfl
 obtain ⟨c1,c2,c3⟩:=Decidable.not_not.1 h0
 have e1:i9 s=s.rows.all (s6 s.n):=by
  unfold i9
  rw [lbH c1,lbH c2,lbH c3];rfl
 rw [e1]
 clear h0
 (refine ac Tryz.func142 ?_;(conv=>whnf);repeat ((first|refine b0x ?_|refine zy ?_);conv=>whnf))
 repeat' (first|refine zx ?_|refine zd ?_ ?_<;>intro h<;>try omega|fail)<;>conv=>whnf
 all_goals try omega
 refine f8 c7 (fun k=>([J,S.c (C.t (T.ptr [ti s.n,S6 s.rows]))]++Jn 18++[S.c (C.t (S6 s.rows)),a8 .i64 s.rows.length,a8 .i64 k]++Jn 26,[])) s.rows.length (fun k=>(s.rows.take k).all (s6 s.n)=true) [] rfl
  ⟨rfl,rfl,trivial,⟨rfl,rfl,c6 (by simp),rfl,trivial⟩⟩ ?_
 intro k hk hI
 by_cases hlt:k<s.rows.length
 ·obtain ⟨w,hw⟩:∃w,s.rows[k]? =some w:=⟨_,lbf hlt⟩
  obtain ⟨b1,b2,b3⟩:=hb.t w (lbm hw)
  have rt:=G9 w.terms s.n (by omega) b2
  rw [lbH c1,Bool.true_and] at rt
  have rv:=J5 w.value (by omega)
  cases hrt:d8 (-1) s.n w.terms with
  |false=>
   rw [hrt] at rt
   have hF:s6 s.n w=false:=by unfold s6;rw [hrt];rfl
   rw [B3 hw hF]
   conv=>whnf
   repeat' (first|refine zx ?_|refine qp rt ?_|refine qp rv ?_|refine d7 hw ?_|refine zd ?_ ?_<;>intro h<;>try omega|fail)<;>conv=>whnf
   all_goals first
    |omega
    |(exfalso;simp_all;done)
    |exact c9 rfl
  |true=>
   rw [hrt] at rt
   by_cases hk3:0<=w.kind∧w.kind<3
   ·have hT:s6 s.n w=true:=by unfold s6;rw [hrt,lbH hk3.1,lbH hk3.2];rfl
    conv=>whnf
    repeat' (first|refine zx ?_|refine qp rt ?_|refine qp rv ?_|refine d7 hw ?_|refine zd ?_ ?_<;>intro h<;>try omega|fail)<;>conv=>whnf
    all_goals first
     |omega
     |(exfalso;simp_all;done)
     |exact ⟨hlt,by rw [A6 hw,hI,hT];rfl,[],rfl,rfl,trivial,⟨rfl,rfl,rfl,rfl,trivial⟩⟩
   ·have hF:s6 s.n w=false:=by
     unfold s6
     rw [← lbP]
     simp only [lbM,lbI]
     exact fun h=>hk3 ⟨h.1.2,h.2⟩
    rw [B3 hw hF]
    conv=>whnf
    repeat' (first|refine zx ?_|refine qp rt ?_|refine qp rv ?_|refine d7 hw ?_|refine zd ?_ ?_<;>intro h<;>try omega|fail)<;>conv=>whnf
    all_goals first
     |omega
     |(exfalso;simp_all;done)
     |exact c9 rfl
 ·rw [lbn (by omega)] at hI
  rw [hI]
  conv=>whnf
  repeat' (first|refine zx ?_|refine zd ?_ ?_<;>intro h<;>try omega|fail)<;>conv=>whnf
  all_goals first
   |omega
   |exact c9 rfl
theorem b3b (rs:List Fr) (hl:rs.length<=1000000) (g:FuncId) (caps:List T) (q:Fr->Bool) (hg:∀r ∈ rs,b7 Tryz.prog g (frS r::caps.map fun x=>.c (.t x)) [] (f7 (q r)) []):
 b7 Tryz.prog 302 [.c (.t (E9 rs)),.c (.t (.fn (.func g) caps))] [] (a8 .i64 (F7 q rs 0)) []:=by
 have l1:(rs.map j5).length=rs.length:=by simp
 (refine ac Tryz.func302 ?_;(conv=>whnf);repeat (refine zy ?_;conv=>whnf))
 repeat' (first|refine zx ?_|refine zd ?_ ?_<;>intro h<;>try omega|fail)<;>conv=>whnf
 refine f8 c7 (fun k=>([S.c (C.t (E9 rs)),S.c (C.t (T.fn (.func g) caps)),J,J,J,J,J,a8 .i64 rs.length,a8 .i64 k]++Jn 10,[])) rs.length (fun k=>F7 q (rs.drop k) k=F7 q rs 0) [] rfl
  ⟨rfl,rfl,trivial,⟨i5 rfl,i5 rfl,c6 (by simp),rfl,trivial⟩⟩ ?_
 intro k hk hI
 by_cases hlt:k<rs.length
 ·obtain ⟨r,hr⟩:∃r,rs[k]? =some r:=⟨_,lbf hlt⟩
  have hd:rs.drop k=r::rs.drop (k+1):=by
   rw [List.drop_eq_getElem_cons hlt]
   rw [lbf hlt] at hr
   injection hr with hr
   rw [hr]
  have hgr:=hg r (lbm hr)
  have ha:(frS r::caps.map fun x=>S.c (C.t x)).all S.isT=true:=by simp [S.isT,C.isT,j5]
  rw [hd] at hI
  have hI:(if q r then (k:Int) else F7 q (rs.drop (k+1)) (k+1))=F7 q rs 0:=hI
  cases hq:q r with
  |true=>
   rw [hq] at hgr hI
   conv=>whnf
   repeat' (first|refine zx ?_|refine .inl ⟨_,_,G5 hgr ha rfl,?_⟩|refine d7 hr ?_|refine zd ?_ ?_<;>intro h<;>try omega|fail)<;>conv=>whnf
   all_goals first
    |omega
    |exact v8 hI
  |false=>
   rw [hq] at hgr hI
   conv=>whnf
   repeat' (first|refine zx ?_|refine .inl ⟨_,_,G5 hgr ha rfl,?_⟩|refine d7 hr ?_|refine zd ?_ ?_<;>intro h<;>try omega|fail)<;>conv=>whnf
   all_goals first
    |omega
    |exact ⟨hlt,by simpa using hI,[],rfl,rfl,trivial,⟨rfl,rfl,rfl,rfl,trivial⟩⟩
 ·have hke:k=rs.length:=by omega
  subst hke
  rw [lbo (lbQ _)] at hI
  conv=>whnf
  repeat' (first|refine zx ?_|refine zd ?_ ?_<;>intro h<;>try omega|fail)<;>conv=>whnf
  all_goals first
   |omega
   |exact v8 hI
theorem aB5 (rs:List Fr) (hl:rs.length<=1000000) (g:FuncId) (caps:List T) (q:Fr->Bool) (hg:∀r ∈ rs,b7 Tryz.prog g (frS r::caps.map fun x=>.c (.t x)) [] (f7 (q r)) []):
 b7 Tryz.prog 263 [.c (.t (E9 rs)),.c (.t (.fn (.func g) caps))] [] (f7 (rs.any q)) []:=by
 have ix:=b3b rs hl g caps q hg
 (refine ac Tryz.func263 ?_;(conv=>whnf);repeat (refine zy ?_;conv=>whnf))
 repeat' (first|refine zx ?_|refine qp ix ?_|refine zd ?_ ?_<;>intro h<;>try omega|fail)<;>conv=>whnf
 all_goals (refine c9 ?_;rw [← a3z q rs 0];simp;omega)
theorem b3G (f:Fr) (lp:f.p.dl.length<=200000) (lq:f.q.dl.length<=200000):b7 Tryz.prog 264 (frS f::[].map fun x=>.c (.t x)) [] (f7 (!C9 f)) []:=by
 have r:=a36 f lp lq
 (refine ac Tryz.func264 ?_;(conv=>whnf);repeat ((first|refine b0x ?_|refine zy ?_);conv=>whnf))
 repeat' (first|refine zx ?_|refine qp r ?_|refine zd ?_ ?_<;>intro h<;>try omega|fail)<;>conv=>whnf
 all_goals (refine c9 ?_;simp [*])
theorem b0X (z:List Fr) (hl:z.length<=1000000) (hd:∀f ∈ z,f.p.dl.length<=200000∧f.q.dl.length<=200000):b7 Tryz.prog 213 [j7 z] [] (f7 (z.all C9)) []:=by
 have ct:=aB5 z hl 264 [] _ (fun f hf=>b3G f (hd f hf).1 (hd f hf).2)
 have e:(z.any fun f=>!C9 f)=!(z.all C9):=by rw [List.not_all_eq_any_not]
 rw [e] at ct
 cases hz:z.all C9<;>rw [hz] at ct<;>
 ·(refine ac Tryz.func213 ?_;(conv=>whnf);repeat ((first|refine b0x ?_|refine zy ?_);conv=>whnf))
  repeat' (first|refine zx ?_|refine qp ct ?_|refine zd ?_ ?_<;>intro h<;>try omega|fail)<;>conv=>whnf
  all_goals exact c9 rfl
theorem ar2 {n:Int}:∀{l:List (Int × Rat)} {last:Int},d8 last n l=true->∀t ∈ l,last<t.1∧t.1<n
 |[],_,_,t,ht=>by cases ht
 |u::r,last,h,t,ht=>by
  unfold d8 at h
  simp only [lbM,lbI] at h
  rcases lbA.1 ht with rfl|ht
  ·exact ⟨h.1.1.1,h.1.1.2⟩
  ·have:=ar2 h.2 t ht
   omega
def b6K (s:g6) (z:List Fr):Bool:=z.all C9 && i4 s (z.map fv)
structure OrP where
 kind:Int
 mv:Int
 mat:Int
 idx:Int
def a08 (e:Ev) (i m:Nat):Int:=(i:Int)*e.mats+m
def n8 (e:Ev) (p:Int) (m:Nat):Nat->List (Int × Rat)
 |0=>[]
 |k+1=>match e.moves[k]? with
  |none=>n8 e p m k
  |some y=>if y.src=p then n8 e p m k++[(a08 e k m,((-1:Int):Rat))] else if y.dst=p then n8 e p m k++[(a08 e k m,((1:Int):Rat))] else n8 e p m k
def a62 (e:Ev) (i:Nat) (x:j6) (m:Nat):k7 × OrP:=(⟨n8 e x.src m (i+1),if x.all then 2 else 0,((0:Int):Rat)⟩,⟨0,i,m,-1⟩)
def a21 (b own more:Int) (m:Nat):Int:=if (m:Int)=own then b+more else b
def a18 (e:Ev) (i:Nat) (b own more:Int):Nat->List (Int × Rat)
 |0=>[]
 |m+1=>if a21 b own more m≠0 then a18 e i b own more m++[(a08 e i m,((a21 b own more m:Int):Rat))] else a18 e i b own more m
def Y9 (e:Ev) (i:Nat) (b own more:Int):List (Int × Rat):=a18 e i b own more e.mats.toNat
def R9 (e:Ev) (i:Nat) (x:j6):List (k7 × OrP):=match a2w e x with
 |none=>[]
 |some (lo,hi)=>[(⟨Y9 e i 1 (-1) 0,0,lo⟩,⟨1,i,-1,-1⟩),(⟨Y9 e i 1 (-1) 0,1,hi⟩,⟨2,i,-1,-1⟩)]
def al6 (e:Ev) (i k:Nat) (p:s9):List (k7 × OrP):=
 [(⟨Y9 e i (-p.least) p.mat 1000,0,((0:Int):Rat)⟩,⟨3,i,-1,k⟩),(⟨Y9 e i p.most p.mat (-1000),0,((0:Int):Rat)⟩,⟨4,i,-1,k⟩)]
def I2 (e:Ev) (i:Nat):Nat->List (k7 × OrP)
 |0=>[]
 |k+1=>match e.purities[k]? with
  |none=>I2 e i k
  |some p=>if p.move=(i:Int) then I2 e i k++al6 e i k p else I2 e i k
def G0 (e:Ev) (i:Nat) (x:j6) (m:Nat):List (k7 × OrP):=(List.range m).map (a62 e i x)
def a37 (e:Ev) (i:Nat) (x:j6):List (k7 × OrP):=
 (if F2 e x.src=0 then [] else G0 e i x e.mats.toNat)++R9 e i x++I2 e i e.purities.length
def a0M (e:Ev):Nat->List (k7 × OrP)
 |0=>[]
 |k+1=>match e.moves[k]? with
  |none=>a0M e k
  |some x=>a0M e k++a37 e k x
def a0V (e:Ev):List (k7 × OrP):=a0M e e.moves.length
def C3 (e:Ev):g6:=⟨e.moves.length*e.mats,(a0V e).map Prod.fst⟩
def a0C (e:Ev) (G:List (List Rat)) (z:List Rat):Prop:=∀i m:Nat,i<e.moves.length->(m:Int)<e.mats->z.getD (a08 e i m).toNat 0=hAt G i m
theorem a94 {e:Ev} {G:List (List Rat)} {z:List Rat} (hz:a0C e G z) (p m:Nat) (hm:(m:Int)<e.mats):∀k,j1 (n8 e p m k) z=stk e G k p m
 |0=>rfl
 |k+1=>by
  have ih:=a94 hz p m hm k
  unfold n8
  cases hx:e.moves[k]? with
  |none=>rw [b07 hx];exact ih
  |some y=>
   have hk:=(lbe.1 hx).1
   rw [aN7 hx]
   unfold A8
   simp only
   by_cases c1:y.src=(p:Int)
   ·rw [if_pos c1,if_pos c1,K3,ih,hz k m hk hm]
    have:((-1:Int):Rat)=-1:=rfl
    rw [this];grind
   ·rw [if_neg c1,if_neg c1]
    by_cases c2:y.dst=(p:Int)
    ·rw [if_pos c2,if_pos c2,K3,ih,hz k m hk hm]
     have:((1:Int):Rat)=1:=rfl
     rw [this];grind
    ·rw [if_neg c2,if_neg c2];exact ih
theorem aq1 {e:Ev} {G:List (List Rat)} {z:List Rat} (hz:a0C e G z) {i:Nat} (hi:i<e.moves.length) (b own more:Int):∀n:Nat,(n:Int)<=e.mats->
 j1 (a18 e i b own more n) z=(b:Rat)*i7 (hAt G i) n+(if 0<=own∧own<n then (more:Rat)*hAt G i own.toNat else 0)
 |0,_=>by
  rw [if_neg (by omega)]
  show ((0:Int):Rat)=(b:Rat)*((0:Int):Rat)+0
  have:((0:Int):Rat)=0:=rfl
  rw [this];grind
 |n+1,hn=>by
  have ih:=aq1 hz hi b own more n (by omega)
  have hzz:=hz i n hi (by omega)
  have key:j1 (a18 e i b own more (n+1)) z=j1 (a18 e i b own more n) z+((a21 b own more n:Int):Rat)*hAt G i n:=by
   conv=>lhs;unfold a18
   by_cases h:a21 b own more n≠0
   ·rw [if_pos h,K3,hzz]
   ·rw [if_neg h]
    have h0:a21 b own more n=0:=by omega
    rw [h0]
    have:((0:Int):Rat)=0:=rfl
    rw [this];grind
  rw [key,ih]
  simp only [i7]
  unfold a21
  by_cases h:(n:Int)=own
  ·rw [if_pos h,if_neg (by omega),if_pos (by omega)]
   have e1:own.toNat=n:=by omega
   rw [e1,Rat.intCast_add];grind
  ·rw [if_neg h]
   by_cases h2:0<=own∧own<n
   ·rw [if_pos h2,if_pos (by omega)];grind
   ·rw [if_neg h2,if_neg (by omega)];grind
theorem ac1 {e:Ev} {G:List (List Rat)} {z:List Rat} (hz:a0C e G z) (sG:a2n e G) {i:Nat} (hi:i<e.moves.length) (h0:0<=e.mats) (b own more:Int):
 j1 (Y9 e i b own more) z=(b:Rat)*S5 (G.getD i [])+(if 0<=own∧own<e.mats then (more:Rat)*hAt G i own.toNat else 0):=by
 have h:=aq1 hz hi b own more e.mats.toNat (by omega)
 obtain ⟨l,hl⟩:∃l,G[i]? =some l:=⟨_,lbf (by rw [sG.len];exact hi)⟩
 have hw:=sG.wid l (lbm hl)
 have hg:G.getD i []=l:=by rw [lbl,hl];rfl
 have hs:S5 (G.getD i [])=i7 (hAt G i) e.mats.toNat:=by
  rw [hg,b4E]
  have:l.length=e.mats.toNat:=by omega
  rw [this]
  refine d9 fun m _=>?_
  unfold hAt;rw [hg]
 unfold Y9
 rw [h,hs]
 have:(own<(e.mats.toNat:Int))=(own<e.mats):=by rw [lbY h0]
 simp only [this]
theorem a5r {l:List (Int × Rat)} {v:Rat} {z:List Rat}:G1 ⟨l,0,v⟩ z=true↔v<=j1 l z:=by
 rw [X9]
 constructor
 ·intro h;exact lb2.1 fun h'=>absurd (show (0:Int)=1 from h.1 h') (by decide)
 ·intro h;exact ⟨fun h'=>absurd h' (lb2.2 h),fun _=>rfl⟩
theorem b5N {l:List (Int × Rat)} {v:Rat} {z:List Rat}:G1 ⟨l,1,v⟩ z=true↔j1 l z<=v:=by
 rw [X9]
 constructor
 ·intro h;exact lb2.1 fun h'=>absurd (show (1:Int)=0 from h.2 h') (by decide)
 ·intro h;exact ⟨fun _=>rfl,fun h'=>absurd h' (lb2.2 h)⟩
theorem b2r {l:List (Int × Rat)} {v:Rat} {z:List Rat}:G1 ⟨l,2,v⟩ z=true↔j1 l z=v:=by
 rw [X9]
 constructor
 ·intro h
  have h1:¬j1 l z<v:=fun h'=>absurd (show (2:Int)=1 from h.1 h') (by decide)
  have h2:¬v<j1 l z:=fun h'=>absurd (show (2:Int)=0 from h.2 h') (by decide)
  grind
 ·intro h;subst h;exact ⟨fun h'=>absurd h' (by grind),fun h'=>absurd h' (by grind)⟩
theorem ap7 {e:Ev} {G:List (List Rat)} {z:List Rat} (hz:a0C e G z) {i:Nat} {x:j6} (hx:e.moves[i]? =some x) {s:Nat} (hs:x.src=s) {m:Nat} (hm:(m:Int)<e.mats):
 G1 (a62 e i x m).1 z=true↔hAt G i m<=stk e G i s m∧(x.all=true->hAt G i m=stk e G i s m):=by
 have hv:j1 (n8 e x.src m (i+1)) z=stk e G i s m - hAt G i m:=by
  rw [hs,a94 hz s m hm (i+1),b6n hx hs]
 unfold a62
 cases ha:x.all with
 |true=>
  show G1 ⟨_,2,_⟩ z=true↔_
  rw [b2r,hv]
  have:((0:Int):Rat)=0:=rfl
  rw [this]
  constructor
  ·intro h;exact ⟨by grind,fun _=>by grind⟩
  ·rintro ⟨_,h⟩;have:=h rfl;grind
 |false=>
  show G1 ⟨_,0,_⟩ z=true↔_
  rw [a5r,hv]
  have:((0:Int):Rat)=0:=rfl
  rw [this]
  constructor
  ·intro h;exact ⟨by grind,fun h=>(by cases h)⟩
  ·rintro ⟨h,_⟩;grind
theorem aJ9 (a:Rat):((1:Int):Rat)*a=a:=by have:((1:Int):Rat)=1:=rfl;rw [this];grind
theorem aR0 {e:Ev} {G:List (List Rat)} {z:List Rat} (hz:a0C e G z) (sG:a2n e G) (h0:0<=e.mats) {i:Nat} {x:j6} (hi:i<e.moves.length):
 ((R9 e i x).all fun w=>G1 w.1 z)=true↔Z5 e x (S5 (G.getD i []))=true:=by
 rw [aU7]
 unfold R9
 have hv:=ac1 hz sG hi h0 1 (-1) 0
 rw [if_neg (by omega),aJ9] at hv
 cases a2w e x with
 |none=>simp [inB]
 |some p=>
  obtain ⟨lo,hi'⟩:=p
  simp only [List.all_cons,List.all_nil,Bool.and_true,lbM,inB,lbI]
  rw [a5r,b5N,hv]
  constructor
  ·rintro ⟨h1,h2⟩;exact ⟨by grind,by grind⟩
  ·rintro ⟨h1,h2⟩;exact ⟨by grind,by grind⟩
theorem b3n {e:Ev} {G:List (List Rat)} {z:List Rat} (hz:a0C e G z) (sG:a2n e G) (h0:0<=e.mats) {i k:Nat} {p:s9} (hi:i<e.moves.length) (hp:0<=p.mat∧p.mat<e.mats):
 ((al6 e i k p).all fun w=>G1 w.1 z)=true↔a4W p (G.getD i []) (S5 (G.getD i []))=true:=by
 have v1:=ac1 hz sG hi h0 (-p.least) p.mat 1000
 have v2:=ac1 hz sG hi h0 p.most p.mat (-1000)
 rw [if_pos hp] at v1 v2
 have e1:hAt G i p.mat.toNat=(G.getD i []).getD p.mat.toNat 0:=rfl
 have e2:(((-p.least:Int)):Rat)=-((p.least:Int):Rat):=Rat.intCast_neg _
 have e3:((-1000:Int):Rat)=-((1000:Int):Rat):=Rat.intCast_neg 1000
 have e4:((0:Int):Rat)=0:=rfl
 unfold al6 a4W
 simp only [List.all_cons,List.all_nil,Bool.and_true,lbM,lbI]
 rw [a5r,a5r,v1,v2,e1,e2,e3,e4]
 generalize S5 (G.getD i [])=S
 generalize (G.getD i []).getD p.mat.toNat 0=M
 generalize ((1000:Int):Rat)=T
 generalize ((p.least:Int):Rat)=A
 generalize ((p.most:Int):Rat)=B
 constructor
 ·rintro ⟨h1,h2⟩;exact ⟨by grind,by grind⟩
 ·rintro ⟨h1,h2⟩;exact ⟨by grind,by grind⟩
theorem ar1 {e:Ev} {G:List (List Rat)} {z:List Rat} (hz:a0C e G z) (sG:a2n e G) (h0:0<=e.mats) (hq:∀p ∈ e.purities,0<=p.mat∧p.mat<e.mats) {i:Nat} (hi:i<e.moves.length):∀n,n<=e.purities.length->
 (((I2 e i n).all fun w=>G1 w.1 z)=true↔a4r (e.purities.take n) i (G.getD i []) (S5 (G.getD i []))=true)
 |0,_=>by simp [I2,a4r]
 |n+1,hn=>by
  have ih:=ar1 hz sG h0 hq hi n (by omega)
  obtain ⟨p,hp⟩:∃p,e.purities[n]? =some p:=⟨_,lbf (by omega)⟩
  have tk:e.purities.take (n+1)=e.purities.take n++[p]:=by rw [lbG,hp];rfl
  rw [tk]
  unfold I2
  rw [hp]
  simp only
  have hsp:a4r (e.purities.take n++[p]) i (G.getD i []) (S5 (G.getD i []))=(a4r (e.purities.take n) i (G.getD i []) (S5 (G.getD i [])) && (decide (p.move≠(i:Int)) || a4W p (G.getD i []) (S5 (G.getD i [])))):=by
   unfold a4r;rw [List.all_append];simp
  rw [hsp]
  by_cases h:p.move=(i:Int)
  ·rw [if_pos h,List.all_append,lbM,lbM,ih,b3n hz sG h0 hi (hq p (lbm hp))]
   simp [h]
  ·rw [if_neg h,lbM,ih]
   simp [h]
theorem B5 {e:Ev} (h:m8 e=0):1<=e.mats∧e.mats<=6∧e.places.length<=100∧e.moves.length<=200:=by
 obtain ⟨h1,h2,_⟩:=V6 h
 unfold a9e at h1
 simp only [Bool.or_eq_false_iff,lbK] at h1
 omega
theorem aE0 {e:Ev} {q:k7 × OrP->Bool}:∀n,n<=e.moves.length->((a0M e n).all q=true↔∀i x,i<n->e.moves[i]? =some x->(a37 e i x).all q=true)
 |0,_=>by simp [a0M]
 |n+1,hn=>by
  have ih:=aE0 (e:=e) (q:=q) n (by omega)
  obtain ⟨x,hx⟩:∃x,e.moves[n]? =some x:=⟨_,lbf (by omega)⟩
  unfold a0M
  rw [hx]
  simp only
  rw [List.all_append,lbM,ih]
  constructor
  ·rintro ⟨h1,h2⟩ i y hi hy
   by_cases h:i<n
   ·exact h1 i y h hy
   ·have:i=n:=by omega
    subst this
    rw [hx] at hy;injection hy with hy;subst hy;exact h2
  ·intro h
   exact ⟨fun i y hi hy=>h i y (by omega) hy,h n x (by omega) hx⟩
theorem aU6 {e:Ev} {G:List (List Rat)} {z:List Rat} (hz:a0C e G z) (sG:a2n e G) (h0:0<=e.mats) {i:Nat} {x:j6} (hx:e.moves[i]? =some x) {s:Nat} (hs:x.src=s):
 ((G0 e i x e.mats.toNat).all fun w=>G1 w.1 z)=true↔a0g (stk e G i s) x.all (G.getD i []) 0 false=0:=by
 have hi:=(lbe.1 hx).1
 obtain ⟨l,hl⟩:∃l,G[i]? =some l:=⟨_,lbf (by rw [sG.len];exact hi)⟩
 have hw:=sG.wid l (lbm hl)
 have hg:G.getD i []=l:=by rw [lbl,hl];rfl
 have hat:∀(m:Nat) (v:Rat),l[m]? =some v->hAt G i m=v:=fun m v hv=>by unfold hAt;rw [hg,lbl,hv];rfl
 rw [hg,a9a]
 unfold G0
 rw [List.all_map,lbv]
 constructor
 ·intro h
  have h':∀(m:Nat) (v:Rat),l[m]? =some v->v<=stk e G i s m∧(x.all=true->v=stk e G i s m):=fun m v hv=>by
   have hm:=(lbe.1 hv).1
   have:=(ap7 hz hx hs (m:=m) (by omega)).1 (h m (lbB.2 (by omega)))
   rw [hat m v hv] at this;exact this
  refine ⟨fun m v hv=>?_,fun ha=>⟨rfl,fun m v hv=>?_⟩⟩
  ·rw [Nat.zero_add];exact lb2.2 (h' m v hv).1
  ·rw [Nat.zero_add];have:=(h' m v hv).2 ha;rw [this];exact fun h=>by grind
 ·rintro ⟨h1,h2⟩ m hm
  have hm:=lbB.1 hm
  obtain ⟨v,hv⟩:∃v,l[m]? =some v:=⟨_,lbf (by omega)⟩
  have a1:=h1 m v hv
  rw [Nat.zero_add] at a1
  refine (ap7 hz hx hs (m:=m) (by omega)).2 ?_
  rw [hat m v hv]
  refine ⟨lb2.1 a1,fun ha=>?_⟩
  have a2:=(h2 ha).2 m v hv
  rw [Nat.zero_add] at a2
  grind
theorem aF4 {e:Ev} {G:List (List Rat)} {z:List Rat} (hz:a0C e G z) (sG:a2n e G) (hc:m8 e=0) {i:Nat} {x:j6} (hx:e.moves[i]? =some x) (hpos:∀v ∈ G.getD i [],¬v<0):
 ((a37 e i x).all fun w=>G1 w.1 z)=true↔a8G e G i x=0:=by
 have hi:=(lbe.1 hx).1
 obtain ⟨b1,b2,b3,b4⟩:=B5 hc
 have ms:=a0i (O2 hc (lbm hx))
 obtain ⟨s,hs⟩:∃s:Nat,x.src=s:=⟨x.src.toNat,by omega⟩
 have hq:∀p ∈ e.purities,0<=p.mat∧p.mat<e.mats:=fun p hp=>by
  obtain ⟨a1,a2,a3,a4,a5,a6,a7⟩:=V6 hc
  unfold V4 at a7
  simp only [lbM,lbv] at a7
  have:=a7.2 p hp
  unfold Y6 at this
  simp only [lbM,lbI,a6O] at this
  omega
 unfold a37
 rw [List.all_append,List.all_append,lbM,lbM,aR0 hz sG (by omega) hi,ar1 hz sG (by omega) hq hi _ (lbQ _),lbn (lbQ _)]
 show _↔Z4 e x (G.getD i []) (stk e G i) i=0
 rw [af5]
 have ht:((if F2 e x.src=0 then [] else G0 e i x e.mats.toNat).all fun w=>G1 w.1 z)=true↔a2v e (stk e G i) x (G.getD i [])=0:=by
  unfold a2v
  by_cases h:F2 e x.src=0
  ·rw [if_pos h,if_pos h];simp
  ·rw [if_neg h,if_neg h,aU6 hz sG (by omega) hx hs,show x.src.toNat=s by omega]
 rw [ht]
 exact ⟨fun ⟨⟨h1,h2⟩,h3⟩=>⟨hpos,h1,h2,h3⟩,fun h=>⟨⟨h.tak,h.wei⟩,h.pur⟩⟩
theorem a7m {e:Ev} (hm0:0<=e.mats) {p:Int} {m:Nat} (hm:(m:Int)<e.mats) {n:Int}:∀k:Nat,(k:Int)*e.mats<=n->d8 (-1) n (n8 e p m k)=true∧∀t ∈ n8 e p m k,t.1<(k:Int)*e.mats
 |0,_=>⟨rfl,fun t ht=>by cases ht⟩
 |k+1,hk=>by
  have hk1:((k+1:Nat):Int)*e.mats=(k:Int)*e.mats+e.mats:=by rw [Int.natCast_add];simp [Int.add_mul]
  rw [hk1] at hk ⊢
  obtain ⟨h1,h2⟩:=a7m hm0 hm (p:=p) (n:=n) k (by omega)
  have hk0:0<=(k:Int)*e.mats:=lbZ (by omega) hm0
  have hv:a08 e k m=(k:Int)*e.mats+m:=rfl
  unfold n8
  split
  ·exact ⟨h1,fun t ht=>by have:=h2 t ht;omega⟩
  ·split
   ·refine ⟨X8 (by omega) a4o h1 (by omega) (fun t ht=>by have:=h2 t ht;omega),fun t ht=>?_⟩
    rcases lbz.1 ht with ht|ht
    ·have:=h2 t ht;omega
    ·simp at ht;subst ht;show a08 e k m<_;omega
   ·split
    ·refine ⟨X8 (by omega) a3F h1 (by omega) (fun t ht=>by have:=h2 t ht;omega),fun t ht=>?_⟩
     rcases lbz.1 ht with ht|ht
     ·have:=h2 t ht;omega
     ·simp at ht;subst ht;show a08 e k m<_;omega
    ·exact ⟨h1,fun t ht=>by have:=h2 t ht;omega⟩
theorem af2 {e:Ev} (hm0:0<=e.mats) {i:Nat} {b own more:Int} {n:Int} (hn:(i:Int)*e.mats+e.mats<=n):∀m:Nat,(m:Int)<=e.mats->d8 (-1) n (a18 e i b own more m)=true∧∀t ∈ a18 e i b own more m,(i:Int)*e.mats<=t.1∧t.1<(i:Int)*e.mats+m
 |0,_=>⟨rfl,fun t ht=>by cases ht⟩
 |m+1,hm=>by
  obtain ⟨h1,h2⟩:=af2 hm0 hn (b:=b) (own:=own) (more:=more) m (by omega)
  have hi0:0<=(i:Int)*e.mats:=lbZ (by omega) hm0
  have hv:a08 e i m=(i:Int)*e.mats+m:=rfl
  unfold a18
  split
  ·rename_i hc
   refine ⟨X8 (by omega) (fun h=>hc (by exact_mod_cast h)) h1 (by omega) (fun t ht=>by have:=h2 t ht;omega),fun t ht=>?_⟩
   rcases lbz.1 ht with ht|ht
   ·have:=h2 t ht;omega
   ·simp at ht;subst ht;show _<=a08 e i m∧a08 e i m<_;omega
  ·exact ⟨h1,fun t ht=>by have:=h2 t ht;omega⟩
theorem aC6 {e:Ev} (hm0:0<=e.mats) {i:Nat} {x:j6} {m:Nat} (hm:(m:Int)<e.mats) {n:Int} (hn:(i:Int)*e.mats+e.mats<=n):s6 n (a62 e i x m).1=true:=by
 unfold s6 a62
 have hk1:((i+1:Nat):Int)*e.mats=(i:Int)*e.mats+e.mats:=by rw [Int.natCast_add];simp [Int.add_mul]
 simp only [lbM,lbI]
 refine ⟨⟨(a7m hm0 hm (i+1) (by omega)).1,?_⟩,?_⟩<;>split<;>decide
theorem a4Z {e:Ev} (hm0:0<=e.mats) {i:Nat} {b own more k:Int} {v:Rat} {n:Int} (hn:(i:Int)*e.mats+e.mats<=n) (k0:0<=k) (k1:k<3):s6 n ⟨Y9 e i b own more,k,v⟩=true:=by
 unfold s6
 simp only [lbM,lbI]
 exact ⟨⟨(af2 hm0 hn _ (by omega)).1,k0⟩,k1⟩
theorem a5e {e:Ev} {i:Nat} {w:k7 × OrP}:∀{n:Nat},w ∈ I2 e i n->∃k p,k<n∧e.purities[k]? =some p∧p.move=(i:Int)∧w ∈ al6 e i k p
 |0,h=>by cases h
 |n+1,h=>by
  unfold I2 at h
  cases hp:e.purities[n]? with
  |none=>rw [hp] at h;obtain ⟨k,p,h1,h2⟩:=a5e h;exact ⟨k,p,by omega,h2⟩
  |some p=>
   rw [hp] at h
   simp only at h
   split at h
   ·rename_i hm
    rcases lbz.1 h with h|h
    ·obtain ⟨k,p,h1,h2⟩:=a5e h;exact ⟨k,p,by omega,h2⟩
    ·exact ⟨n,p,by omega,hp,hm,h⟩
   ·obtain ⟨k,p,h1,h2⟩:=a5e h;exact ⟨k,p,by omega,h2⟩
theorem at0 {e:Ev} {i:Nat} {x:j6} {w:k7 × OrP} (h:w ∈ a37 e i x):
 (F2 e x.src≠0∧∃m:Nat,(m:Int)<e.mats∧w=a62 e i x m)∨(∃ lo hi,a2w e x=some (lo,hi)∧(w=(⟨Y9 e i 1 (-1) 0,0,lo⟩,⟨1,i,-1,-1⟩)∨w=(⟨Y9 e i 1 (-1) 0,1,hi⟩,⟨2,i,-1,-1⟩)))∨
 (∃ k p,e.purities[k]? =some p∧p.move=(i:Int)∧w ∈ al6 e i k p):=by
 unfold a37 at h
 rcases lbz.1 h with h|h
 ·rcases lbz.1 h with h|h
  ·refine .inl ?_
   by_cases hk:F2 e x.src=0
   ·rw [if_pos hk] at h;cases h
   ·rw [if_neg hk] at h
    obtain ⟨m,hm,rfl⟩:=lbx.1 h
    have:=lbB.1 hm
    exact ⟨hk,m,by omega,rfl⟩
  ·refine .inr (.inl ?_)
   unfold R9 at h
   split at h
   ·cases h
   ·rename_i lo hi hiv
    refine ⟨lo,hi,hiv,?_⟩
    simp only [lbA,lb9,or_false] at h
    exact h
 ·obtain ⟨k,p,_,h2,h3,h4⟩:=a5e h
  exact .inr (.inr ⟨k,p,h2,h3,h4⟩)
theorem aw9 {e:Ev} (hm0:0<=e.mats) {i:Nat} {x:j6} {n:Int} (hn:(i:Int)*e.mats+e.mats<=n) {w:k7 × OrP} (h:w ∈ a37 e i x):s6 n w.1=true:=by
 rcases at0 h with ⟨_,m,hm,rfl⟩|⟨lo,hi,_,rfl|rfl⟩|⟨k,p,_,_,h⟩
 ·exact aC6 hm0 hm hn
 ·exact a4Z hm0 hn (by decide) (by decide)
 ·exact a4Z hm0 hn (by decide) (by decide)
 ·unfold al6 at h
  simp only [lbA,lb9,or_false] at h
  rcases h with rfl|rfl
  ·exact a4Z hm0 hn (by decide) (by decide)
  ·exact a4Z hm0 hn (by decide) (by decide)
theorem a8c {e:Ev} {i:Nat}:∀n,(I2 e i n).length<=2*n
 |0=>by simp [I2]
 |n+1=>by
  have ih:=a8c (e:=e) (i:=i) n
  unfold I2
  split
  ·omega
  ·split
   ·rw [lbq];simp [al6];omega
   ·omega
theorem b2I {e:Ev} {i:Nat} {x:j6} (hm:e.mats<=6):(a37 e i x).length<=8+2*e.purities.length:=by
 have h1:=a8c (e:=e) (i:=i) e.purities.length
 unfold a37
 rw [lbq,lbq]
 have h2:(R9 e i x).length<=2:=by unfold R9;split<;>simp
 have h3:(if F2 e x.src=0 then ([]:List (k7 × OrP)) else G0 e i x e.mats.toNat).length<=6:=by
  split
  ·simp
  ·simp [G0];omega
 omega
theorem a4l {e:Ev} (hm:e.mats<=6):∀n,(a0M e n).length<=n*(8+2*e.purities.length)
 |0=>by simp [a0M]
 |n+1=>by
  have ih:=a4l hm n
  unfold a0M
  rw [lbU]
  split
  ·omega
  ·rename_i x _
   have:=b2I (i:=n) (x:=x) hm
   rw [lbq];omega
theorem a6L {e:Ev} {w:k7 × OrP}:∀{n:Nat},w ∈ a0M e n->∃i x,i<n∧e.moves[i]? =some x∧w ∈ a37 e i x
 |0,h=>by cases h
 |n+1,h=>by
  unfold a0M at h
  cases hx:e.moves[n]? with
  |none=>rw [hx] at h;obtain ⟨i,x,h1,h2⟩:=a6L h;exact ⟨i,x,by omega,h2⟩
  |some x=>
   rw [hx] at h
   simp only at h
   rcases lbz.1 h with h|h
   ·obtain ⟨i,x,h1,h2⟩:=a6L h;exact ⟨i,x,by omega,h2⟩
   ·exact ⟨n,x,by omega,hx,h⟩
theorem aP6 {e:Ev} (hc:m8 e=0) (hm:e.moves.length<=8) (hp:e.purities.length<=20):i9 (C3 e)=true:=by
 obtain ⟨b1,b2,b3,b4⟩:=B5 hc
 have h1:(e.moves.length:Int)*e.mats<=8*6:=Int.mul_le_mul (by omega) b2 (by omega) (by decide)
 have h0:0<=(e.moves.length:Int)*e.mats:=lbZ (by omega) (by omega)
 have h2:=a4l b2 e.moves.length
 have h3:e.moves.length*(8+2*e.purities.length)<=8*48:=lbS hm (by omega)
 unfold i9
 simp only [lbM,lbI]
 refine ⟨⟨⟨h0,?_⟩,?_⟩,?_⟩
 ·show (e.moves.length:Int)*e.mats<=1500;omega
 ·show ((a0M e e.moves.length).map Prod.fst).length<=6000;rw [lbr];omega
 ·show ((a0M e e.moves.length).map Prod.fst).all _=true
  rw [List.all_map,lbv]
  intro w hw
  obtain ⟨i,x,hi,hx,hw⟩:=a6L hw
  refine aw9 (by omega) ?_ hw
  have:((i+1:Nat):Int)*e.mats<=(e.moves.length:Int)*e.mats:=lbW (by omega) (by omega)
  rw [Int.natCast_add,Int.add_mul] at this
  show (i:Int)*e.mats+e.mats<=(e.moves.length:Int)*e.mats
  simpa using this
theorem aM9 {α:Type} {w:Nat}:∀{G:List (List α)} (i m:Nat),(∀ l ∈ G,l.length=w)->m<w->G.flatten[i*w+m]? =(G[i]?).bind (·[m]?)
 |[],i,m,_,_=>by simp
 |l::r,0,m,h,hm=>by
  have hl:=h l (by simp)
  rw [Nat.zero_mul,Nat.zero_add,List.flatten_cons,lbb (by omega)];simp
 |l::r,i+1,m,h,hm=>by
  have hl:=h l (by simp)
  have ih:=aM9 (G:=r) i m (fun l hl=>h l (List.mem_cons_of_mem _ hl)) hm
  rw [List.flatten_cons,lbc (by rw [lbU];omega),show (i+1)*w+m - l.length=i*w+m by rw [lbU];omega,ih];simp
theorem aE1 {α:Type} {w:Nat}:∀{G:List (List α)},(∀ l ∈ G,l.length=w)->G.flatten.length=G.length*w
 |[],_=>by simp
 |l::r,h=>by
  have hl:=h l (by simp)
  rw [List.flatten_cons,lbq,aE1 (G:=r) (fun l hl=>h l (List.mem_cons_of_mem _ hl)),lbu,lbU];omega
theorem flat_holds {e:Ev} {G:List (List Rat)} (sG:a2n e G):a0C e G G.flatten:=by
 intro i m hi hm
 have hw:∀l ∈ G,l.length=e.mats.toNat:=fun l hl=>by have:=sG.wid l hl;omega
 have e1:(a08 e i m).toNat=i*e.mats.toNat+m:=by
  have h0:(e.mats.toNat:Int)=e.mats:=lbY (by omega)
  have:a08 e i m=((i*e.mats.toNat+m:Nat):Int):=by unfold a08;rw [← h0];simp
  rw [this,lbX]
 rw [e1,lbl,aM9 i m hw (by omega)]
 unfold hAt
 rw [lbl,lbl]
 cases h:G[i]? with
 |none=>simp
 |some l=>simp
theorem ba4 {e:Ev} {G:List (List Rat)} (hc:m8 e=0) (sG:a2n e G) (hm:e.moves.length<=8) (hp:e.purities.length<=20):i4 (C3 e) G.flatten=true↔a44 e G=0:=by
 obtain ⟨b1,b2,b3,b4⟩:=B5 hc
 have hw:∀l ∈ G,l.length=e.mats.toNat:=fun l hl=>by have:=sG.wid l hl;omega
 have hl:(G.flatten.length:Int)=e.moves.length*e.mats:=by
  rw [aE1 hw,sG.len]
  have h0:(e.mats.toNat:Int)=e.mats:=lbY (by omega)
  rw [Int.natCast_mul,h0]
 unfold i4
 rw [aP6 hc hm hp,lbH (show (G.flatten.length:Int)=(C3 e).n from hl)]
 simp only [Bool.true_and,lbM]
 have hrows:((C3 e).rows.all fun w=>G1 w G.flatten)=true↔∀i x,e.moves[i]? =some x->((a37 e i x).all fun w=>G1 w.1 G.flatten)=true:=by
  show (((a0M e e.moves.length).map Prod.fst).all _)=true↔_
  rw [List.all_map]
  have:=aE0 (e:=e) (q:=fun w=>G1 w.1 G.flatten) e.moves.length (lbQ _)
  refine this.trans ⟨fun h i x hx=>h i x (lbe.1 hx).1 hx,fun h i x _ hx=>h i x hx⟩
 rw [hrows,aS0]
 constructor
 ·rintro ⟨h1,h2⟩ i x hx
  refine (aF4 (flat_holds sG) sG hc hx fun v hv=>?_).1 (h2 i x hx)
  have hi:=(lbe.1 hx).1
  have hg:G[i]? =some (G.getD i []):=by rw [lbl,lbf (by rw [sG.len];exact hi)];rfl
  have:=lbL (lbv.1 h1 v (List.mem_flatten.2 ⟨_,lbm hg,hv⟩))
  exact lb2.2 this
 ·intro h
  have hpos:∀i x,e.moves[i]? =some x->∀v ∈ G.getD i [],¬v<0:=fun i x hx=>(af5.1 (h i x hx)).pos
  refine ⟨?_,fun i x hx=>(aF4 (flat_holds sG) sG hc hx (hpos i x hx)).2 (h i x hx)⟩
  rw [lbv]
  intro v hv
  obtain ⟨l,hlG,hvl⟩:=List.mem_flatten.1 hv
  obtain ⟨i,hi,rfl⟩:=List.getElem_of_mem hlG
  obtain ⟨x,hx⟩:∃x,e.moves[i]? =some x:=⟨_,lbf (by rw [← sG.len];exact hi)⟩
  refine lbH (lb2.1 (hpos i x hx v ?_))
  rw [lbl,lbf hi];exact hvl
theorem aP7 {e:Ev} {i:Nat} {x:j6}:(R9 e i x).length=if (a2w e x).isSome then 2 else 0:=by unfold R9;cases a2w e x<;>rfl
theorem a5w {P : Program} {τ : Tab} (hτ : C0 P τ) {f : FuncId} {fn : Func} {c : Code} {args : List S} {H : Hp} {s : S} {H' : Hp} (hf : P.funcs[f]? = some fn) (hb : fn.body = some c) (hn : fn.name ≠ "runtime.NumGoroutine")
    (h:Awp P H.length c (args++List.replicate (fn.ntmps - args.length) .junk) H fun x env' H1=>match x with
      |.exit _=>False
      |_=>a7z τ fn env' H1 fun r=>Fin H.length r H1 s H'):b7 P f args H s H':=by
  refine ⟨⟨fn,hf,by rw [hb];rfl,hn⟩,fun w ι M vals hl hr hH hM hF=>?_⟩
  refine calls_of_wp hf hb ?_
  have hi:=Sim.init hl hr hH hM hF (fn.ntmps - args.length)
  have:=h.out w ι M H _ w rfl hM hi
  have e:vals.toArray.size=args.length:=by simpa using hl
  rw [e]
  refine wp_mono this ?_
  rintro e a' w' ⟨x,env',H1,rfl,hq,ι',M',hd,hsz,he,hH',hM',hF',hst⟩
  have key:(a7z τ fn env' H1 fun r=>Fin H.length r H1 s H')->a'.defers=[]∧∃v,(results fn a'.tmps).run P w'=.ok v w'∧∃v',Ending.returned v=.returned v'∧F4 w ι M H s H' v' w':=by
   intro hq
   refine ⟨hd,?_⟩
   obtain ⟨l,hk,vs,h1,h2,h3⟩:=a6M hτ he hH' fn.results.toList hq
   have hrun:∃v,(results fn a'.tmps).run P w'=.ok v w'∧v=(if h:vs.length=1 then vs[0] else .tuple vs.toArray):=by
    refine ⟨_,?_,rfl⟩
    unfold results
    rw [Array.mapM_eq_mapM_toList,Sem.run_bind,Sem.run_map]
    refine (congrArg (fun r=>Result.andThen (Result.andThen r _) _) h1).trans ?_
    simp
   obtain ⟨v,hv1,rfl⟩:=hrun
   refine ⟨_,hv1,_,rfl,?_⟩
   have hsr:∃r,RS w' ι' M' r (if h:vs.length=1 then vs[0] else .tuple vs.toArray)∧Fin H.length r H1 s H':=by
    match l,hk,h2,h3 with
    |[s1],hk,h2,h3=>
     refine ⟨s1,?_,hk⟩
     rw [dif_pos (by simpa using h2)]
     have:=h3 0 s1 rfl
     rw [lbl,lbf (by simp at h2;omega)] at this
     exact this
    |[],hk,h2,h3=>
     refine ⟨_,?_,hk⟩
     rw [dif_neg (by simp at h2;simp [h2])]
     exact .tup vs h2 h3
    |s1::s2::r,hk,h2,h3=>
     refine ⟨_,?_,hk⟩
     rw [dif_neg (by simp at h2;omega)]
     exact .tup vs h2 h3
   obtain ⟨r,h4,ρ,f1,f2,f3,f4⟩:=hsr
   obtain ⟨g1,g2,g3⟩:=a35.all f1 f2 f3 rfl hM hH' hst
   exact ⟨N5 ρ ι',_,f4.rs hH' h4,g1,fun b hb=>hM' b hb.1,g2,g3⟩
  cases x with
  |normal=>exact key hq
  |ret=>exact key hq
  |exit id=>exact hq.elim
theorem B6 {P:Program} {τ:Tab} (hτ:C0 P τ) {n0:Nat} {x y:Code} {env:Env} {H:Hp} {Q:AX->Env->Hp->Prop}
 (h:a13 P τ n0 x env H fun a env' H'=>match a with
   |.normal=>Awp P n0 y env' H' Q
   |a=>Q a env' H'):Awp P n0 (.seq x y) env H Q:=by
 refine ⟨fun w0 ι0 M0 H0 a w hn hM hs=>?_⟩
 refine wp_seq (wp_mono ((n9 hτ x h).out w0 ι0 M0 H0 a w hn hM hs) ?_)
 rintro e a' w' ⟨x,env',H',rfl,hq,hs'⟩
 cases x with
 |normal=>exact hq.out w0 ι0 M0 H0 a' w' hn hM hs'
 |exit id=>exact ⟨_,env',H',rfl,hq,hs'⟩
 |ret=>exact ⟨_,env',H',rfl,hq,hs'⟩
theorem a4w {P:Program} {n0:Nat} {x y:Code} {env:Env} {H:Hp} {Q:AX->Env->Hp->Prop}
 (h:Awp P n0 x env H fun a env' H'=>match a with
   |.normal=>Awp P n0 y env' H' Q
   |a=>Q a env' H'):Awp P n0 (.seq x y) env H Q:=by
 refine ⟨fun w0 ι0 M0 H0 a w hn hM hs=>?_⟩
 refine wp_seq (wp_mono (h.out w0 ι0 M0 H0 a w hn hM hs) ?_)
 rintro e a' w' ⟨x,env',H',rfl,hq,hs'⟩
 cases x with
 |normal=>exact hq.out w0 ι0 M0 H0 a' w' hn hM hs'
 |exit id=>exact ⟨_,env',H',rfl,hq,hs'⟩
 |ret=>exact ⟨_,env',H',rfl,hq,hs'⟩
theorem a6A {P:Program} {n0 id:Nat} {c:Code} {env:Env} {H:Hp} {Q:AX->Env->Hp->Prop} (h:Awp P n0 c env H (bb1 id Q)):Awp P n0 (.block id c) env H Q:=by
 refine ⟨fun w0 ι0 M0 H0 a w hn hM hs=>?_⟩
 refine wp_block (wp_mono (h.out w0 ι0 M0 H0 a w hn hM hs) ?_)
 rintro e a' w' ⟨x,env',H',rfl,hq,hs'⟩
 cases x with
 |normal=>exact ⟨_,env',H',rfl,hq,hs'⟩
 |exit j=>
  have hq:cond (Nat.beq j id) (Q .normal env' H') (Q (.exit j) env' H'):=hq
  show if j=id then _ else _
  by_cases hj:j=id
  ·subst hj
   rw [if_pos rfl]
   simp only [Nat.beq_refl,cond_true] at hq
   exact ⟨_,env',H',rfl,hq,hs'⟩
  ·rw [if_neg hj]
   have:Nat.beq j id=false:=by
    cases hb:Nat.beq j id with
    |false=>rfl
    |true=>exact absurd (Nat.eq_of_beq_eq_true hb) hj
   simp only [this,cond_false] at hq
   exact ⟨_,env',H',rfl,hq,hs'⟩
 |ret=>exact ⟨_,env',H',rfl,hq,hs'⟩
theorem b6y {P:Program} {n0:Nat} {c:Code} {env env':Env} {H H':Hp} {Q:AX->Env->Hp->Prop} (ρ:List (Option Nat)) (he:Ent n0 ρ env H env' H') (h:Awp P n0 c env' H' Q):Awp P n0 c env H Q:=
 ⟨fun w0 ι0 M0 H0 a w hn hM hs=>h.out w0 ι0 M0 H0 a w hn hM (he.sim hn hM hs)⟩
theorem a1a {P:Program} {τ:Tab} (hτ:C0 P τ) {n0:Nat} {x y:Code} {env:Env} {H:Hp} {Q:AX->Env->Hp->Prop} (E2:Env) (H2:Hp)
 (h:a13 P τ n0 x env H fun a env' H'=>match a with
   |.normal=>∃ρ,Ent n0 ρ env' H' E2 H2
   |a=>Q a env' H') (h2:Awp P n0 y E2 H2 Q):Awp P n0 (.seq x y) env H Q:=by
 refine ⟨fun w0 ι0 M0 H0 a w hn hM hs=>?_⟩
 refine wp_seq (wp_mono ((n9 hτ x h).out w0 ι0 M0 H0 a w hn hM hs) ?_)
 rintro e a' w' ⟨x,env',H',rfl,hq,hs'⟩
 cases x with
 |normal=>obtain ⟨ρ,he⟩:=hq;exact h2.out w0 ι0 M0 H0 a' w' hn hM (he.sim hn hM hs')
 |exit id=>exact ⟨_,env',H',rfl,hq,hs'⟩
 |ret=>exact ⟨_,env',H',rfl,hq,hs'⟩
theorem aG9 {P:Program} {n0:Nat} {c:Code} {env:Env} {H:Hp} {Q:AX->Env->Hp->Prop} (E:Nat->Env × Hp) (n:Nat) (I:Nat->Prop) (ρ0:List (Option Nat))
 (hI:I 0) (h0:Ent n0 ρ0 env H (E 0).1 (E 0).2)
 (round:∀k,k<=n->I k->Awp P n0 c (E k).1 (E k).2 fun a env' H'=>match a with
   |.normal=>k<n∧I (k+1)∧∃ρ,Ent n0 ρ env' H' (E (k+1)).1 (E (k+1)).2
   |a=>Q a env' H'):Awp P n0 (.loop c) env H Q:=by
 refine a4V (σ:={ k:Nat // k<=n∧I k }) (fun k=>E k.1) (fun k=>n - k.1) ⟨0,Nat.zero_le _,hI⟩ ρ0 h0 ?_
 rintro ⟨k,hk,hi⟩
 refine (round k hk hi).mono ?_
 intro a env' H' h
 cases a with
 |normal=>
  obtain ⟨h1,h2,ρ,h3⟩:=h
  exact ⟨ρ,⟨k+1,h1,h2⟩,h3,by show n - (k+1)<n - k;omega⟩
 |exit id=>exact h
 |ret=>exact h
theorem ag1 {P:Program} {g:FuncId} {args args':List S} {H Hs:Hp} {r:S} (σ:List Nat) (h:b7 P g args Hs r Hs) (hargs:args'=args.map (a7o σ)) (hok:args.all (okS σ.length)=true) (hσl:σ.length=Hs.length)
 (hin:∀(i:Nat) (k:Blk),Hs[i]? =some k->k.mode=.old∧(∀ r ∈ k.rows,okL σ.length r=true)∧∃k',H[σ.getD i 0]? =some k'∧k'.mode≠.dead∧k'.elem=k.elem∧k'.size=k.size∧k'.rows=a9q σ k.rows)
 (hr:r.isT=true):Q6 P g args' H r []:=by
 refine ⟨h.1,fun w ι M vals hl hv hH hM hf=>?_⟩
 subst hargs
 have hget:∀(i:Nat) (k:Blk),Hs[i]? =some k->i<σ.length:=fun i k hk=>by rw [hσl];exact (lbe.1 hk).1
 have hsub:∀i,i<σ.length->O9 σ ι i=ι (σ.getD i 0):=fun i hi=>by simp [O9,lbf hi,lbl]
 have hno:∀(i:Nat) (k:Blk),Hs[i]? =some k->k.mode=.live->False:=fun i k hk hm=>by rw [(hin i k hk).1] at hm;cases hm
 have hHs:j8 w (O9 σ ι) M Hs:=by
  refine ⟨fun id k hk hd l hl=>?_,fun id k hk hm=>(hno id k hk hm).elim,fun id k hk hm=>?_,fun id id' k k' hk _ hm=>(hno id k hk hm).elim,fun id id' k k' _ hk' _ hm=>(hno id' k' hk' hm).elim⟩
  ·obtain ⟨h1,h2,k',hk',hm',e1,e2,e3⟩:=hin id k hk
   rw [hsub id (hget id k hk)] at hl
   have hb:=hH.blk _ k' hk' hm' l hl
   have hb:G4 w ι M ⟨k.mode,k'.elem,k'.size,k'.rows,k'.box,k.app⟩ l:=by cases l<;>exact hb
   exact G4.ren_in (k:=k) (k':=⟨k.mode,k'.elem,k'.size,k'.rows,k'.box,k.app⟩) ⟨rfl,e1,e2,rfl,e3⟩ h2 hb
  ·rw [(hin id k hk).1] at hm;cases hm
 have hcall:=h.2 w (O9 σ ι) M vals (by simpa using hl) (fun j s hj=>b0N (lbv.1 hok s (lbm hj)) (hv j _ (by rw [lba,hj];rfl))) hHs hM (fun id hid=>by
  unfold O9
  rw [lbd (by omega)];rfl)
 refine Calls.mono hcall ?_
 rintro e w' ⟨v,rfl,ι',M',h1,h2,h3,h4,h5⟩
 have hlv:∀b,¬a24 (O9 σ ι) Hs b:=fun b ⟨id,k,_,_,hk,hm,_⟩=>hno id k hk hm
 have hext:Ext w w':=⟨h5.os,h5.tape,h5.output,h5.size,fun b hb=>h5.keep b hb (hlv b)⟩
 refine ⟨v,rfl,fun _=>.nil,?_,hext,fun k blk hk=>by simp at hk,fun k b cap size hk=>by simp at hk,fun k k' b cap size cap' size' hk=>by simp at hk⟩
 refine RS.tree hr (RS.keep (M:=M') (ι:=ι') (fun _ _ _=>rfl) (fun b hb=>?_) (fun _ _ h=>h) h1)
 rcases hb with hb|⟨k,hk,_⟩
 ·rcases h5.mold b hb with h|h
  ·exact .inl h
  ·exact absurd h (hlv b)
 ·simp at hk
def a3P (o:OrP):List T:=[ti o.kind,ti o.mv,ti o.mat,ti o.idx]
abbrev orS (o:OrP):S:=.agg ((a3P o).map .t)
abbrev a1g (l:List (Int × Rat)):Blk:={ mode:=.live,elem:=129,size:=5,rows:=toC (l.map j9),box:=false }
abbrev rB (l:List (k7 × OrP)):Blk:={ mode:=.live,elem:=192,size:=6,rows:=toC (l.map fun w=>C8 w.1),box:=false }
abbrev oB (l:List (k7 × OrP)):Blk:={ mode:=.live,elem:=114,size:=4,rows:=toC (l.map fun w=>a3P w.2),box:=false }
def b5e (e:Ev) (r o n:Nat):List C:=[.t (ti e.mats),.t (ti e.hhs),.t (ti e.scs),.t (a2r e.places),.t (Q7 e.moves),.t (a0W e.certs),.t (N4 e.recalls),.t (P4 e.purities),.own r 0 n true,.own o 0 n true]
abbrev mkB (e:Ev) (r o n:Nat):Blk:={ mode:=.live,elem:=123,size:=10,rows:=[b5e e r o n],box:=true }
abbrev az8 (el:TypeId) (size:Nat):Blk:=⟨.dead,el,size,[],false,false⟩
abbrev aK2:Blk:=az8 192 6
abbrev aQ1:Blk:=az8 114 4
abbrev hp0 (e:Ev) (L:List (k7 × OrP)):Hp:=[mkB e 1 2 L.length,rB L,oB L]
abbrev hp1 (e:Ev) (L:List (k7 × OrP)):Hp:=[mkB e 3 4 L.length,aK2,aQ1,rB L,oB L]
abbrev b4Q (k:Blk):Blk:={ k with mode:=.old }
abbrev hpO (e:Ev) (L:List (k7 × OrP)):Hp:=[b4Q (mkB e 1 2 L.length),b4Q (rB L),b4Q (oB L)]
theorem a9Y {α:Type} {f:α->List T} {l:List α} {x:α} {n:Nat} (h:n=l.length):List.take n (toC (l.map f))++toC [f x]=toC ((l++[x]).map f):=by
 rw [lbn (by simp [toC,h])]
 simp [toC]
set_option maxHeartbeats 4000000 in
theorem b7p (e:Ev) (L:List (k7 × OrP)) (hL:L.length<=1000000) (l:List (Int × Rat)) (kind:Int) (v:Rat) (o:OrP):
 b7 Tryz.prog 193 [.c (.ptr 0 0 0),.c (.t (a2E l)),a8 .i64 kind,frS (fz v),orS o] (hp0 e L) (.tup []) (hp1 e (L++[(⟨l,kind,v⟩,o)])):=by
 have lA:L.length<=(rB L).rows.length:=by show _<=(toC _).length;simp [toC]
 have lB:L.length<=(oB L).rows.length:=by show _<=(toC _).length;simp [toC]
 have lC:(L.length+1)*97<=140737488355328:=by omega
 have lD:(L.length+1)*33<=140737488355328:=by omega
 (refine ac Tryz.func193 ?_;(conv=>whnf);repeat ((first|refine b0x ?_|refine zy ?_);conv=>whnf))
 repeat' (first|refine zx ?_|refine qp 0 ?_|refine y9 lA lC ?_|refine y9 lB lD ?_|refine bl0 [0] ?_|refine zd ?_ ?_<;>intro h<;>try omega|fail)<;>conv=>whnf
 refine ⟨⟨[some 0,some 1,some 2,some 3,some 4],rfl,rfl,⟨⟨rfl,rfl,rfl,.inr ⟨⟨rfl,rfl,rfl,rfl,rfl,rfl,rfl,rfl,⟨rfl,rfl,?_,fun h=>h⟩,⟨rfl,rfl,?_,fun h=>h⟩,trivial⟩,trivial⟩⟩,⟨rfl,rfl,rfl,.inl ⟨rfl,by simp [E5]⟩⟩,⟨rfl,rfl,rfl,.inl ⟨rfl,by simp [E5]⟩⟩,b8 rfl rfl rfl ?_ rfl,b8 rfl rfl rfl ?_ rfl,trivial⟩,trivial⟩⟩
 ·simp [toC]
 ·simp [toC]
 ·exact a9Y (f:=fun w:k7 × OrP=>C8 w.1) (x:=(⟨l,kind,v⟩,o)) rfl
 ·exact a9Y (f:=fun w:k7 × OrP=>a3P w.2) (x:=(⟨l,kind,v⟩,o)) rfl
theorem K9 {ρ:List (Option Nat)} {H:Hp} {k:Blk} {rows:List (List T)} (hm:k.mode=.old) (h:k.rows=toC rows):a1f ρ H k k:=⟨by unfold a2A;rw [hm],rfl,rfl,.inl ⟨rfl,h ▸ c8 rows⟩⟩
theorem a1I {e:Ev} {L:List (k7 × OrP)} {R:Hp} {ρ:List (Option Nat)}:a1f (some 0::some 1::some 2::ρ) (hpO e L++R) (b4Q (mkB e 1 2 L.length)) (b4Q (mkB e 1 2 L.length)):=⟨rfl,rfl,rfl,.inr ⟨⟨rfl,rfl,rfl,rfl,rfl,rfl,rfl,rfl,⟨rfl,rfl,rfl,fun h=>h⟩,⟨rfl,rfl,rfl,fun h=>h⟩,trivial⟩,trivial⟩⟩
theorem b6l (e:Ev) (L:List (k7 × OrP)) (i m:Nat) (h0:0<=(i:Int)*e.mats) (h1:(i:Int)*e.mats<=1000000) (hm:m<=1000000):
 b7 Tryz.prog 192 [.c (.ptr 0 0 0),a8 .i64 i,a8 .i64 m] (hpO e L) (a8 .i64 (a08 e i m)) (hpO e L):=by
 (refine ac Tryz.func192 ?_;(conv=>whnf);repeat ((first|refine b0x ?_|refine zy ?_);conv=>whnf))
 repeat' (first|refine zx ?_|refine zd ?_ ?_<;>intro h<;>try omega|fail)<;>conv=>whnf
 exact ⟨⟨[some 0,some 1,some 2],rfl,rfl,⟨a1I (R:=[]),K9 rfl rfl,K9 rfl rfl,trivial⟩,rfl⟩⟩
theorem a74 {H:Hp} {e:Ev} {L:List (k7 × OrP)} {r o:Nat} {k0 k1 k2:Blk} (hk0:H[0]? =some k0) (hk1:H[r]? =some k1) (hk2:H[o]? =some k2) (e0:k0.mode≠.dead∧k0.elem=(mkB e r o L.length).elem∧k0.size=10∧k0.rows=[b5e e r o L.length])
 (e1:k1.mode≠.dead∧k1.elem=(rB L).elem∧k1.size=6∧k1.rows=(rB L).rows) (e2:k2.mode≠.dead∧k2.elem=(oB L).elem∧k2.size=4∧k2.rows=(oB L).rows) (i m:Nat) (h0:0<=(i:Int)*e.mats) (h1:(i:Int)*e.mats<=1000000) (hm:m<=1000000):
 Q6 Tryz.prog 192 [.c (.ptr 0 0 0),a8 .i64 i,a8 .i64 m] H (a8 .i64 (a08 e i m)) []:=by
 refine ag1 [0,r,o] (b6l e L i m h0 h1 hm) rfl rfl rfl ?_ rfl
 intro j k hk
 match j,hk with
 |0,hk=>
  injection hk with hk
  subst hk
  exact ⟨rfl,by intro r hr;simp at hr;subst hr;rfl,k0,hk0,e0.1,e0.2.1,e0.2.2.1,e0.2.2.2⟩
 |1,hk=>
  injection hk with hk
  subst hk
  exact ⟨rfl,J6 _,k1,hk1,e1.1,e1.2.1,e1.2.2.1,e1.2.2.2.trans (a43 _).symm⟩
 |2,hk=>
  injection hk with hk
  subst hk
  exact ⟨rfl,J6 _,k2,hk2,e2.1,e2.2.1,e2.2.2.1,e2.2.2.2.trans (a43 _).symm⟩
theorem a0o {l:List (Int × Rat)} {w:Int × Rat} {n:Nat} (h:n=l.length):List.take n (toC (l.map j9))++toC [j9 w]=toC ((l++[w]).map j9):=a9Y h
theorem b1a {e:Ev} {i:Nat} {b own more:Int}:∀n,(a18 e i b own more n).length<=n
 |0=>by simp [a18]
 |n+1=>by
  have ih:=b1a (e:=e) (i:=i) (b:=b) (own:=own) (more:=more) n
  unfold a18
  split
  ·simp;omega
  ·omega
set_option maxHeartbeats 4000000 in
theorem b6i (e:Ev) (L:List (k7 × OrP)) (hm0:0<=e.mats) (hm6:e.mats<=6) (i:Nat) (hi:i<=1000) (b own more:Int) (hb:-100000<=b∧b<=100000) (hr:-100000<=more∧more<=100000):
 b7 Tryz.prog 194 [.c (.ptr 0 0 0),a8 .i64 i,a8 .i64 b,a8 .i64 own,a8 .i64 more] (hpO e L) (.c (.t (a2E (Y9 e i b own more)))) (hpO e L):=by
 have h0:0<=(i:Int)*e.mats:=lbZ (by omega) hm0
 have h1:(i:Int)*e.mats<=1000*6:=Int.mul_le_mul (by omega) hm6 hm0 (by decide)
 (refine ac Tryz.func194 ?_;(conv=>whnf);repeat ((first|refine b0x ?_|refine zy ?_);conv=>whnf))
 repeat' (first|refine zx ?_|refine zd ?_ ?_<;>intro h<;>try omega|fail)<;>conv=>whnf
 refine f8 c7 (fun k=>([S.c (C.ptr 0 0 0),a8 .i64 i,a8 .i64 b,a8 .i64 own,a8 .i64 more,J,J,J,J,J,J,S.c (C.own 3 0 (a18 e i b own more k).length true),J,J,J,J,J,J,a8 .i64 e.mats,a8 .i64 k]++Jn 23,hpO e L++[a1g (a18 e i b own more k)])) e.mats.toNat (fun _=>True) [some 0,some 1,some 2,none] trivial
  ⟨rfl,rfl,⟨a1I (R:=[]),K9 rfl rfl,K9 rfl rfl,⟨rfl,rfl⟩,trivial⟩,⟨⟨rfl,rfl,rfl⟩,rfl,rfl,rfl,rfl,⟨rfl,rfl,rfl⟩,rfl,rfl,trivial⟩⟩ ?_
 intro k hk _
 have lk:=b1a (e:=e) (i:=i) (b:=b) (own:=own) (more:=more) k
 by_cases hlt:k<e.mats.toNat
 ·have vq:=a74 (H:=hpO e L++[a1g (a18 e i b own more k)]) (e:=e) (L:=L) (r:=1) (o:=2) rfl rfl rfl ⟨(by intro h;cases h),rfl,rfl,rfl⟩ ⟨(by intro h;cases h),rfl,rfl,rfl⟩ ⟨(by intro h;cases h),rfl,rfl,rfl⟩ i k h0 (by omega) (by omega)
  have lA:(a18 e i b own more k).length<=(a1g (a18 e i b own more k)).rows.length:=by show _<=(toC _).length;simp [toC]
  have lC:((a18 e i b own more k).length+1)*73<=140737488355328:=by omega
  have eT:a18 e i b own more (k+1)=if a21 b own more k≠0 then a18 e i b own more k++[(a08 e i k,((a21 b own more k:Int):Rat))] else a18 e i b own more k:=rfl
  by_cases c1:(k:Int)=own
  ·have ec:a21 b own more k=b+more:=by unfold a21;rw [if_pos c1]
   rw [ec] at eT
   have ig:=D2 (b+more) (by omega) (by omega)
   by_cases c2:b+more≠0
   ·rw [if_pos c2] at eT
    conv=>whnf
    repeat' (first|refine zx ?_|refine qp ig ?_|refine .inl ⟨_,_,vq,?_⟩|refine y9 lA lC ?_|refine zd ?_ ?_<;>intro h<;>try omega|fail)<;>conv=>whnf
    all_goals try omega
    refine ⟨hlt,trivial,[some 0,some 1,some 2,some 4],rfl,rfl,⟨a1I,K9 rfl rfl,K9 rfl rfl,b8 rfl rfl rfl ?_ rfl,trivial⟩,⟨⟨rfl,rfl,rfl⟩,rfl,rfl,rfl,rfl,⟨rfl,rfl,?_,fun h=>h⟩,rfl,rfl,trivial⟩⟩
    ·rw [eT];exact a0o (w:=(a08 e i k,((b+more:Int):Rat))) rfl
    ·rw [eT];simp [toC]
   ·rw [if_neg c2] at eT
    conv=>whnf
    repeat' (first|refine zx ?_|refine zd ?_ ?_<;>intro h<;>try omega|fail)<;>conv=>whnf
    all_goals try omega
    refine ⟨hlt,trivial,[some 0,some 1,some 2,some 3],rfl,rfl,⟨a1I,K9 rfl rfl,K9 rfl rfl,b8 rfl rfl rfl ?_ rfl,trivial⟩,⟨⟨rfl,rfl,rfl⟩,rfl,rfl,rfl,rfl,⟨rfl,rfl,?_,fun h=>h⟩,rfl,rfl,trivial⟩⟩
    ·rw [eT]
    ·rw [eT]
  ·have ec:a21 b own more k=b:=by unfold a21;rw [if_neg c1]
   rw [ec] at eT
   have ig:=D2 b (by omega) (by omega)
   by_cases c2:b≠0
   ·rw [if_pos c2] at eT
    conv=>whnf
    repeat' (first|refine zx ?_|refine qp ig ?_|refine .inl ⟨_,_,vq,?_⟩|refine y9 lA lC ?_|refine zd ?_ ?_<;>intro h<;>try omega|fail)<;>conv=>whnf
    all_goals try omega
    refine ⟨hlt,trivial,[some 0,some 1,some 2,some 4],rfl,rfl,⟨a1I,K9 rfl rfl,K9 rfl rfl,b8 rfl rfl rfl ?_ rfl,trivial⟩,⟨⟨rfl,rfl,rfl⟩,rfl,rfl,rfl,rfl,⟨rfl,rfl,?_,fun h=>h⟩,rfl,rfl,trivial⟩⟩
    ·rw [eT];exact a0o (w:=(a08 e i k,((b:Int):Rat))) rfl
    ·rw [eT];simp [toC]
   ·rw [if_neg c2] at eT
    conv=>whnf
    repeat' (first|refine zx ?_|refine zd ?_ ?_<;>intro h<;>try omega|fail)<;>conv=>whnf
    all_goals try omega
    refine ⟨hlt,trivial,[some 0,some 1,some 2,some 3],rfl,rfl,⟨a1I,K9 rfl rfl,K9 rfl rfl,b8 rfl rfl rfl ?_ rfl,trivial⟩,⟨⟨rfl,rfl,rfl⟩,rfl,rfl,rfl,rfl,⟨rfl,rfl,?_,fun h=>h⟩,rfl,rfl,trivial⟩⟩
    ·rw [eT]
    ·rw [eT]
 ·have hke:k=e.mats.toNat:=by omega
  subst hke
  conv=>whnf
  repeat' (first|refine zx ?_|refine zd ?_ ?_<;>intro h<;>try omega|fail)<;>conv=>whnf
  all_goals try omega
  exact ⟨⟨[some 0,some 1,some 2],rfl,rfl,⟨a1I,K9 rfl rfl,K9 rfl rfl,trivial⟩,show VC _ (fun id=>G3 [some 0,some 1,some 2] id=true) _ _ from t8 rfl rfl (by intro h;cases h) rfl rfl (by rw [lbr];rfl)⟩⟩
theorem a5z {H:Hp} {e:Ev} {L:List (k7 × OrP)} {r o:Nat} {k0 k1 k2:Blk} (hk0:H[0]? =some k0) (hk1:H[r]? =some k1) (hk2:H[o]? =some k2) (e0:k0.mode≠.dead∧k0.elem=(mkB e r o L.length).elem∧k0.size=10∧k0.rows=[b5e e r o L.length])
 (e1:k1.mode≠.dead∧k1.elem=(rB L).elem∧k1.size=6∧k1.rows=(rB L).rows) (e2:k2.mode≠.dead∧k2.elem=(oB L).elem∧k2.size=4∧k2.rows=(oB L).rows)
 (hm0:0<=e.mats) (hm6:e.mats<=6) (i:Nat) (hi:i<=1000) (b own more:Int) (hb:-100000<=b∧b<=100000) (hr:-100000<=more∧more<=100000):
 Q6 Tryz.prog 194 [.c (.ptr 0 0 0),a8 .i64 i,a8 .i64 b,a8 .i64 own,a8 .i64 more] H (.c (.t (a2E (Y9 e i b own more)))) []:=by
 refine ag1 [0,r,o] (b6i e L hm0 hm6 i hi b own more hb hr) rfl rfl rfl ?_ rfl
 intro j k hk
 match j,hk with
 |0,hk=>
  injection hk with hk
  subst hk
  exact ⟨rfl,by intro r hr;simp at hr;subst hr;rfl,k0,hk0,e0.1,e0.2.1,e0.2.2.1,e0.2.2.2⟩
 |1,hk=>
  injection hk with hk
  subst hk
  exact ⟨rfl,J6 _,k1,hk1,e1.1,e1.2.1,e1.2.2.1,e1.2.2.2.trans (a43 _).symm⟩
 |2,hk=>
  injection hk with hk
  subst hk
  exact ⟨rfl,J6 _,k2,hk2,e2.1,e2.2.1,e2.2.2.1,e2.2.2.2.trans (a43 _).symm⟩
abbrev mvB (x:j6):Blk:={ mode:=.live,elem:=45,size:=6,rows:=[x.row.map .t],box:=true }
theorem J0 (x:j6):E5 [x.row.map C.t]:=by simp [E5,j6.row,C.isT]
theorem a4h {H:Hp} {e:Ev} {L:List (k7 × OrP)} {r o n:Nat} {rs os:List (List C)} (hs:H[0]? =some (mkB e r o n)) (h1:H[r]? =some { mode:=.live,elem:=192,size:=6,rows:=rs,box:=false })
 (h2:H[o]? =some { mode:=.live,elem:=114,size:=4,rows:=os,box:=false }) (hn:n=L.length) (hrs:rs=toC (L.map fun w=>C8 w.1)) (hos:os=toC (L.map fun w=>a3P w.2)) (hr0:r≠0) (ho0:o≠0) (hro:r≠o) (hL:L.length<=1000000)
 (l:List (Int × Rat)) (kind:Int) (v:Rat) (p:OrP):
 b7 Tryz.prog 193 [.c (.ptr 0 0 0),.c (.t (a2E l)),a8 .i64 kind,frS (fz v),orS p] H (.tup [])
  ((((H.set 0 (mkB e H.length (H.length+1) (L++[((⟨l,kind,v⟩:k7),p)]).length)).set r aK2).set o aQ1)++[rB (L++[((⟨l,kind,v⟩:k7),p)]),oB (L++[((⟨l,kind,v⟩:k7),p)])]):=by
 subst hn hrs hos
 have g0:0<H.length:=(lbe.1 hs).1
 have g1:r<H.length:=(lbe.1 h1).1
 have g2:o<H.length:=(lbe.1 h2).1
 have ex:a3T [0,r,o] H.length 2=[0,r,o,H.length,H.length+1]:=by simp [a3T,List.range_succ]
 refine N8 [0,r,o] (b7p e L hL l kind v p) rfl rfl rfl (by simp;omega) ?_ ?_ (by simp) rfl rfl (by simp) ?_ ?_
 ·intro i k hk
  match i,hk with
  |0,hk=>
   injection hk with hk
   subst hk
   exact ⟨rfl,rfl,by intro r hr;simp at hr;subst hr;rfl,_,hs,⟨rfl,rfl,rfl,rfl,rfl⟩⟩
  |1,hk=>
   injection hk with hk
   subst hk
   exact ⟨rfl,rfl,J6 _,_,h1,x9 rfl⟩
  |2,hk=>
   injection hk with hk
   subst hk
   exact ⟨rfl,rfl,J6 _,_,h2,x9 rfl⟩
 ·intro k hk
  simp at hk
  rcases hk with rfl|rfl|rfl|rfl|rfl<;>(intro h;cases h)
 ·intro i k hk
  show ∃k',_[(a3T [0,r,o] H.length 2).getD i 0]? =some k'∧aw7 (a3T [0,r,o] H.length 2) k k'
  rw [ex]
  match i,hk with
  |0,hk=>
   injection hk with hk
   subst hk
   refine ⟨mkB e H.length (H.length+1) (L++[((⟨l,kind,v⟩:k7),p)]).length,?_,⟨rfl,rfl,rfl,rfl,rfl⟩⟩
   show (_++_)[0]? =_
   rw [lbb (by simp;omega),lbg,if_neg (by omega),lbg,if_neg (by omega),lbg,if_pos rfl,if_pos g0]
  |1,hk=>
   injection hk with hk
   subst hk
   refine ⟨aK2,?_,⟨rfl,rfl,rfl,rfl,rfl⟩⟩
   show (_++_)[r]? =_
   rw [lbb (by simp;omega),lbg,if_neg (by omega),lbg,if_pos rfl,if_pos (by simp;omega)]
  |2,hk=>
   injection hk with hk
   subst hk
   refine ⟨aQ1,?_,⟨rfl,rfl,rfl,rfl,rfl⟩⟩
   show (_++_)[o]? =_
   rw [lbb (by simp;omega),lbg,if_pos rfl,if_pos (by simp;omega)]
  |3,hk=>
   injection hk with hk
   subst hk
   refine ⟨rB (L++[((⟨l,kind,v⟩:k7),p)]),?_,x9 rfl⟩
   show (_++_)[H.length]? =_
   rw [lbc (by simp)]
   simp
  |4,hk=>
   injection hk with hk
   subst hk
   refine ⟨oB (L++[((⟨l,kind,v⟩:k7),p)]),?_,x9 rfl⟩
   show (_++_)[H.length+1]? =_
   rw [lbc (by simp)]
   simp
 ·intro j hj hjn
  simp at hjn
  rw [lbb (by simp;omega),lbg,if_neg (by omega),lbg,if_neg (by omega),lbg,if_neg (by omega)]
def hpM (e:Ev) (x:j6) (L:List (k7 × OrP)):Nat->Hp
 |0=>[mkB e 1 2 L.length,rB L,oB L,mvB x]
 |_+1=>[mkB e 4 5 L.length,aK2,aQ1,mvB x,rB L,oB L]
theorem a8s {e:Ev} {p:Int} {m:Nat}:∀k,(n8 e p m k).length<=k
 |0=>by simp [n8]
 |k+1=>by
  have ih:=a8s (e:=e) (p:=p) (m:=m) k
  unfold n8
  split
  ·omega
  ·split
   ·simp;omega
   ·split
    ·simp;omega
    ·omega
theorem X6 {e:Ev} {p:Int} {m k:Nat} {y:j6} (h:e.moves[k]? =some y):n8 e p m (k+1)=if y.src=p then n8 e p m k++[(a08 e k m,((-1:Int):Rat))] else if y.dst=p then n8 e p m k++[(a08 e k m,((1:Int):Rat))] else n8 e p m k:=by rw [n8,h]
theorem p7 {ρ:List (Option Nat)} {H:Hp} {el:TypeId} {size:Nat}:a1f ρ H (az8 el size) (az8 el size):=⟨rfl,rfl,rfl,.inl ⟨rfl,by simp [E5]⟩⟩
set_option maxHeartbeats 4000000 in
theorem b36 (e:Ev) (hm1:1<=e.mats) (hm6:e.mats<=6) (hl:e.moves.length<=220) {i:Nat} {x:j6} (hx:e.moves[i]? =some x) (L:List (k7 × OrP)) (hL:L.length<=100000):
 b7 Tryz.prog 121 [.c (.ptr 0 0 0),a8 .i64 i] (hp0 e L) (.tup []) (hp1 e (L++G0 e i x e.mats.toNat)):=by
 have hi:=(lbe.1 hx).1
 have m0:(e.moves.map j6.row).length=e.moves.length:=by simp
 have i0:=D2 0 (by decide) (by decide)
 have i1:=D2 1 (by decide) (by decide)
 have im:=D2 (-1) (by decide) (by decide)
 have tk:(e.moves.map j6.row).take (i+1)=(e.moves.take (i+1)).map j6.row:=(List.map_take ..).symm
 have tl:(e.moves.take (i+1)).length=i+1:=by simp;omega
 have mt:((e.moves.take (i+1)).map j6.row).length=i+1:=by simp;omega
 have hti:((i:Int)+1).toNat=i+1:=by omega
 let K:Int:=if x.all then 2 else 0
 cases hal:x.all
 case' false=>have hK:K=0:=by show (if x.all then (2:Int) else 0)=0;rw [hal];rfl
 case' true=>have hK:K=2:=by show (if x.all then (2:Int) else 0)=2;rw [hal];rfl
 all_goals
  (refine ac Tryz.func121 ?_;(conv=>whnf);repeat ((first|refine b0x ?_|refine zy ?_);conv=>whnf))
  repeat' (first|refine zx ?_|refine d7 hx ?_|refine zd ?_ ?_<;>intro h<;>try omega|fail)<;>conv=>whnf
  all_goals first
   |omega
   |(exfalso;simp_all;done)
   |skip
  refine f8 c7 (fun m=>([S.c (C.ptr 0 0 0),a8 .i64 i,J,J,S.c (C.ptr 3 0 0),a8 .i64 K]++Jn 19++[a8 .i64 e.mats,a8 .i64 m]++Jn 50,hpM e x (L++G0 e i x m) m)) e.mats.toNat (fun _=>True) [some 0,some 1,some 2,some 3] trivial ?_ ?_
  ·have e0:L++G0 e i x 0=L:=by simp [G0]
   show Ent _ _ _ _ _ (hpM e x (L++G0 e i x 0) 0)
   rw [e0,hK]
   exact ⟨rfl,rfl,⟨⟨rfl,rfl,rfl,.inr ⟨⟨rfl,rfl,rfl,rfl,rfl,rfl,rfl,rfl,⟨rfl,rfl,rfl,fun h=>h⟩,⟨rfl,rfl,rfl,fun h=>h⟩,trivial⟩,trivial⟩⟩,b8 rfl rfl rfl rfl rfl,b8 rfl rfl rfl rfl rfl,⟨rfl,rfl,rfl,.inl ⟨rfl,J0 x⟩⟩,trivial⟩,⟨⟨rfl,rfl,rfl⟩,rfl,⟨rfl,rfl,rfl⟩,rfl,rfl,rfl,trivial⟩⟩
  intro m hm _
  have sl:(L++G0 e i x m).length<=100006:=by simp [G0];omega
  by_cases hlt:m<e.mats.toNat
  ·have hst:L++G0 e i x (m+1)=(L++G0 e i x m)++[a62 e i x m]:=by simp [G0,List.range_succ]
   obtain ⟨M,hM⟩:∃M,M=L++G0 e i x m:=⟨_,rfl⟩
   rw [← hM] at hst sl ⊢
   cases m with
   |zero=>
    conv=>whnf
    repeat' (first|refine zx ?_|refine a14 (by omega) (by omega) (by omega) ?_|refine zd ?_ ?_<;>intro h<;>try omega|fail)<;>conv=>whnf
    all_goals try omega
    refine aP9 ?_
    refine f8 c7 (fun k=>([S.c (C.ptr 0 0 0),a8 .i64 i,J,J,S.c (C.ptr 3 0 0),a8 .i64 K,a8 .i64 ((0:Nat):Int),S.c (C.own 4 0 (n8 e x.src 0 k).length true)]++Jn 17++[a8 .i64 e.mats,a8 .i64 ((0:Nat):Int),J,J,J,J,J,J,J,J,J,S.c (C.t (Q7 (e.moves.take (i+1)))),a8 .i64 ((i+1:Nat):Int),a8 .i64 k]++Jn 38,hpM e x M 0++[a1g (n8 e x.src 0 k)])) (i+1) (fun _=>True) [some 0,some 1,some 2,some 3,none] trivial
     ⟨rfl,rfl,⟨⟨rfl,rfl,rfl,.inr ⟨⟨rfl,rfl,rfl,rfl,rfl,rfl,rfl,rfl,⟨rfl,rfl,rfl,fun h=>h⟩,⟨rfl,rfl,rfl,fun h=>h⟩,trivial⟩,trivial⟩⟩,⟨rfl,rfl,rfl,.inl ⟨rfl,c8 _⟩⟩,⟨rfl,rfl,rfl,.inl ⟨rfl,c8 _⟩⟩,⟨rfl,rfl,rfl,.inl ⟨rfl,J0 x⟩⟩,⟨rfl,rfl⟩,trivial⟩,⟨⟨rfl,rfl,rfl⟩,rfl,⟨rfl,rfl,rfl⟩,rfl,rfl,⟨rfl,rfl,rfl⟩,rfl,rfl,i5 ?_,c6 ?_,rfl,trivial⟩⟩ ?_
    ·show T.sl 6 _ (((e.moves.map j6.row).take ((i:Int)+1).toNat).drop 0)=_
     rw [hti,tk];rfl
    ·show ((((e.moves.map j6.row).take ((i:Int)+1).toNat).drop 0).length:Int)=((i+1:Nat):Int)
     rw [hti,tk,List.drop_zero,mt]
    intro k hk _
    have kl:=a8s (e:=e) (p:=x.src) (m:=0) k
    by_cases hkt:k<i+1
    ·obtain ⟨y,hy⟩:∃y,e.moves[k]? =some y:=⟨_,lbf (by omega)⟩
     have hyt:(e.moves.take (i+1))[k]? =some y:=by rw [lbi,if_pos hkt];exact hy
     have n0:0<=(k:Int)*e.mats:=lbZ (by omega) (by omega)
     have n1:(k:Int)*e.mats<=220*6:=Int.mul_le_mul (by omega) hm6 (by omega) (by decide)
     have lA:(n8 e x.src 0 k).length<=(a1g (n8 e x.src 0 k)).rows.length:=by show _<=(toC _).length;simp [toC]
     have lC:((n8 e x.src 0 k).length+1)*73<=140737488355328:=by omega
     by_cases c1:y.src=x.src
     ·have et:n8 e x.src 0 (k+1)=n8 e x.src 0 k++[(a08 e k 0,((-1:Int):Rat))]:=by rw [X6 hy,if_pos c1]
      conv=>whnf
      have vq:=fun (R:Hp)=>a74 (H:=hpM e x M 0++R) (e:=e) (L:=M) (r:=1) (o:=2) rfl rfl rfl ⟨(by intro h;cases h),rfl,rfl,rfl⟩ ⟨(by intro h;cases h),rfl,rfl,rfl⟩ ⟨(by intro h;cases h),rfl,rfl,rfl⟩ k 0 n0 (by omega) (by omega)
      repeat' (first|refine zx ?_|refine qp i1 ?_|refine qp im ?_|refine d7 hyt ?_|refine .inl ⟨_,_,vq _,?_⟩|refine y9 lA lC ?_|refine zd ?_ ?_<;>intro h<;>try omega|fail)<;>conv=>whnf
      all_goals try omega
      refine ⟨hkt,trivial,[some 0,some 1,some 2,some 3,some 6],rfl,rfl,⟨⟨rfl,rfl,rfl,.inr ⟨⟨rfl,rfl,rfl,rfl,rfl,rfl,rfl,rfl,⟨rfl,rfl,rfl,fun h=>h⟩,⟨rfl,rfl,rfl,fun h=>h⟩,trivial⟩,trivial⟩⟩,⟨rfl,rfl,rfl,.inl ⟨rfl,c8 _⟩⟩,⟨rfl,rfl,rfl,.inl ⟨rfl,c8 _⟩⟩,⟨rfl,rfl,rfl,.inl ⟨rfl,J0 x⟩⟩,b8 rfl rfl rfl ?_ rfl,trivial⟩,⟨⟨rfl,rfl,rfl⟩,rfl,⟨rfl,rfl,rfl⟩,rfl,rfl,⟨rfl,rfl,?_,fun h=>h⟩,rfl,rfl,rfl,rfl,rfl,trivial⟩⟩
      ·rw [et];exact a0o (w:=(a08 e k 0,((-1:Int):Rat))) rfl
      ·rw [et];simp [toC]
     by_cases c2:y.dst=x.src
     ·have et:n8 e x.src 0 (k+1)=n8 e x.src 0 k++[(a08 e k 0,((1:Int):Rat))]:=by rw [X6 hy,if_neg c1,if_pos c2]
      conv=>whnf
      have vq:=fun (R:Hp)=>a74 (H:=hpM e x M 0++R) (e:=e) (L:=M) (r:=1) (o:=2) rfl rfl rfl ⟨(by intro h;cases h),rfl,rfl,rfl⟩ ⟨(by intro h;cases h),rfl,rfl,rfl⟩ ⟨(by intro h;cases h),rfl,rfl,rfl⟩ k 0 n0 (by omega) (by omega)
      repeat' (first|refine zx ?_|refine qp i1 ?_|refine qp im ?_|refine d7 hyt ?_|refine .inl ⟨_,_,vq _,?_⟩|refine y9 lA lC ?_|refine zd ?_ ?_<;>intro h<;>try omega|fail)<;>conv=>whnf
      all_goals try omega
      refine ⟨hkt,trivial,[some 0,some 1,some 2,some 3,some 6],rfl,rfl,⟨⟨rfl,rfl,rfl,.inr ⟨⟨rfl,rfl,rfl,rfl,rfl,rfl,rfl,rfl,⟨rfl,rfl,rfl,fun h=>h⟩,⟨rfl,rfl,rfl,fun h=>h⟩,trivial⟩,trivial⟩⟩,⟨rfl,rfl,rfl,.inl ⟨rfl,c8 _⟩⟩,⟨rfl,rfl,rfl,.inl ⟨rfl,c8 _⟩⟩,⟨rfl,rfl,rfl,.inl ⟨rfl,J0 x⟩⟩,b8 rfl rfl rfl ?_ rfl,trivial⟩,⟨⟨rfl,rfl,rfl⟩,rfl,⟨rfl,rfl,rfl⟩,rfl,rfl,⟨rfl,rfl,?_,fun h=>h⟩,rfl,rfl,rfl,rfl,rfl,trivial⟩⟩
      ·rw [et];exact a0o (w:=(a08 e k 0,((1:Int):Rat))) rfl
      ·rw [et];simp [toC]
     ·have et:n8 e x.src 0 (k+1)=n8 e x.src 0 k:=by rw [X6 hy,if_neg c1,if_neg c2]
      conv=>whnf
      repeat' (first|refine zx ?_|refine qp i1 ?_|refine qp im ?_|refine d7 hyt ?_|refine y9 lA lC ?_|refine zd ?_ ?_<;>intro h<;>try omega|fail)<;>conv=>whnf
      all_goals try omega
      refine ⟨hkt,trivial,[some 0,some 1,some 2,some 3,some 4],rfl,rfl,⟨⟨rfl,rfl,rfl,.inr ⟨⟨rfl,rfl,rfl,rfl,rfl,rfl,rfl,rfl,⟨rfl,rfl,rfl,fun h=>h⟩,⟨rfl,rfl,rfl,fun h=>h⟩,trivial⟩,trivial⟩⟩,⟨rfl,rfl,rfl,.inl ⟨rfl,c8 _⟩⟩,⟨rfl,rfl,rfl,.inl ⟨rfl,c8 _⟩⟩,⟨rfl,rfl,rfl,.inl ⟨rfl,J0 x⟩⟩,b8 rfl rfl rfl ?_ rfl,trivial⟩,⟨⟨rfl,rfl,rfl⟩,rfl,⟨rfl,rfl,rfl⟩,rfl,rfl,⟨rfl,rfl,?_,fun h=>h⟩,rfl,rfl,rfl,rfl,rfl,trivial⟩⟩
      ·rw [et]
      ·rw [et]
    have hke:k=i+1:=by omega
    subst hke
    conv=>whnf
    repeat' (first|refine zx ?_|refine zd ?_ ?_<;>intro h<;>try omega|fail)<;>conv=>whnf
    all_goals try omega
    refine .inr ⟨[some 0,some 1,some 2,some 3],[S.c (C.ptr 0 0 0),a8 .i64 i,J,J,S.c (C.ptr 3 0 0),a8 .i64 K,a8 .i64 ((0:Nat):Int),S.c (C.t (a2E (n8 e x.src 0 (i+1))))]++Jn 17++[a8 .i64 e.mats,a8 .i64 ((0:Nat):Int),J,J,J,J,J,J,J,J,J,S.c (C.t (Q7 (e.moves.take (i+1)))),a8 .i64 ((i+1:Nat):Int),a8 .i64 ((i+1:Nat):Int)]++Jn 38,hpM e x M 0,⟨rfl,rfl,⟨⟨rfl,rfl,rfl,.inr ⟨⟨rfl,rfl,rfl,rfl,rfl,rfl,rfl,rfl,⟨rfl,rfl,rfl,fun h=>h⟩,⟨rfl,rfl,rfl,fun h=>h⟩,trivial⟩,trivial⟩⟩,⟨rfl,rfl,rfl,.inl ⟨rfl,c8 _⟩⟩,⟨rfl,rfl,rfl,.inl ⟨rfl,c8 _⟩⟩,⟨rfl,rfl,rfl,.inl ⟨rfl,J0 x⟩⟩,trivial⟩,⟨⟨rfl,rfl,rfl⟩,rfl,⟨rfl,rfl,rfl⟩,rfl,rfl,ae8 (k:=a1g (n8 e x.src 0 (i+1))) rfl rfl (by intro h;cases h) rfl rfl (by rw [lbr]),rfl,rfl,rfl,rfl,rfl,trivial⟩⟩,?_⟩
    have ad:=a4h (H:=hpM e x M 0) (e:=e) (L:=M) (r:=1) (o:=2) rfl rfl rfl rfl rfl rfl (by decide) (by decide) (by decide) (by omega) (n8 e x.src 0 (i+1)) K ((0:Int):Rat) ⟨0,i,((0:Nat):Int),-1⟩
    rw [show M++[((⟨n8 e x.src 0 (i+1),K,((0:Int):Rat)⟩:k7),(⟨0,i,((0:Nat):Int),-1⟩:OrP))]=L++G0 e i x (0+1) from hst.symm] at ad
    conv=>whnf
    repeat' (first|refine zx ?_|refine qp i0 ?_|refine .inr ⟨_,_,ad,?_⟩|refine zd ?_ ?_<;>intro h<;>try omega|fail)<;>conv=>whnf
    all_goals try omega
    exact ⟨hlt,trivial,[some 0,some 1,some 2,some 3,some 4,some 5],rfl,rfl,⟨⟨rfl,rfl,rfl,.inr ⟨⟨rfl,rfl,rfl,rfl,rfl,rfl,rfl,rfl,⟨rfl,rfl,rfl,fun h=>h⟩,⟨rfl,rfl,rfl,fun h=>h⟩,trivial⟩,trivial⟩⟩,p7,p7,⟨rfl,rfl,rfl,.inl ⟨rfl,J0 x⟩⟩,⟨rfl,rfl,rfl,.inl ⟨rfl,c8 _⟩⟩,⟨rfl,rfl,rfl,.inl ⟨rfl,c8 _⟩⟩,trivial⟩,⟨⟨rfl,rfl,rfl⟩,rfl,⟨rfl,rfl,rfl⟩,rfl,rfl,rfl,trivial⟩⟩
   |succ m'=>
    conv=>whnf
    repeat' (first|refine zx ?_|refine a14 (by omega) (by omega) (by omega) ?_|refine zd ?_ ?_<;>intro h<;>try omega|fail)<;>conv=>whnf
    all_goals try omega
    refine aP9 ?_
    refine f8 c7 (fun k=>([S.c (C.ptr 0 0 0),a8 .i64 i,J,J,S.c (C.ptr 3 0 0),a8 .i64 K,a8 .i64 (((m'+1):Nat):Int),S.c (C.own 6 0 (n8 e x.src (m'+1) k).length true)]++Jn 17++[a8 .i64 e.mats,a8 .i64 (((m'+1):Nat):Int),J,J,J,J,J,J,J,J,J,S.c (C.t (Q7 (e.moves.take (i+1)))),a8 .i64 ((i+1:Nat):Int),a8 .i64 k]++Jn 38,hpM e x M (m'+1)++[a1g (n8 e x.src (m'+1) k)])) (i+1) (fun _=>True) [some 0,some 1,some 2,some 3,some 4,some 5,none] trivial
     ⟨rfl,rfl,⟨⟨rfl,rfl,rfl,.inr ⟨⟨rfl,rfl,rfl,rfl,rfl,rfl,rfl,rfl,⟨rfl,rfl,rfl,fun h=>h⟩,⟨rfl,rfl,rfl,fun h=>h⟩,trivial⟩,trivial⟩⟩,p7,p7,⟨rfl,rfl,rfl,.inl ⟨rfl,J0 x⟩⟩,⟨rfl,rfl,rfl,.inl ⟨rfl,c8 _⟩⟩,⟨rfl,rfl,rfl,.inl ⟨rfl,c8 _⟩⟩,⟨rfl,rfl⟩,trivial⟩,⟨⟨rfl,rfl,rfl⟩,rfl,⟨rfl,rfl,rfl⟩,rfl,rfl,⟨rfl,rfl,rfl⟩,rfl,rfl,i5 ?_,c6 ?_,rfl,trivial⟩⟩ ?_
    ·show T.sl 6 _ (((e.moves.map j6.row).take ((i:Int)+1).toNat).drop 0)=_
     rw [hti,tk];rfl
    ·show ((((e.moves.map j6.row).take ((i:Int)+1).toNat).drop 0).length:Int)=((i+1:Nat):Int)
     rw [hti,tk,List.drop_zero,mt]
    intro k hk _
    have kl:=a8s (e:=e) (p:=x.src) (m:=(m'+1)) k
    by_cases hkt:k<i+1
    ·obtain ⟨y,hy⟩:∃y,e.moves[k]? =some y:=⟨_,lbf (by omega)⟩
     have hyt:(e.moves.take (i+1))[k]? =some y:=by rw [lbi,if_pos hkt];exact hy
     have n0:0<=(k:Int)*e.mats:=lbZ (by omega) (by omega)
     have n1:(k:Int)*e.mats<=220*6:=Int.mul_le_mul (by omega) hm6 (by omega) (by decide)
     have lA:(n8 e x.src (m'+1) k).length<=(a1g (n8 e x.src (m'+1) k)).rows.length:=by show _<=(toC _).length;simp [toC]
     have lC:((n8 e x.src (m'+1) k).length+1)*73<=140737488355328:=by omega
     by_cases c1:y.src=x.src
     ·have et:n8 e x.src (m'+1) (k+1)=n8 e x.src (m'+1) k++[(a08 e k (m'+1),((-1:Int):Rat))]:=by rw [X6 hy,if_pos c1]
      conv=>whnf
      have vq:=fun (R:Hp)=>a74 (H:=hpM e x M (m'+1)++R) (e:=e) (L:=M) (r:=4) (o:=5) rfl rfl rfl ⟨(by intro h;cases h),rfl,rfl,rfl⟩ ⟨(by intro h;cases h),rfl,rfl,rfl⟩ ⟨(by intro h;cases h),rfl,rfl,rfl⟩ k (m'+1) n0 (by omega) (by omega)
      repeat' (first|refine zx ?_|refine qp i1 ?_|refine qp im ?_|refine d7 hyt ?_|refine .inl ⟨_,_,vq _,?_⟩|refine y9 lA lC ?_|refine zd ?_ ?_<;>intro h<;>try omega|fail)<;>conv=>whnf
      all_goals try omega
      refine ⟨hkt,trivial,[some 0,some 1,some 2,some 3,some 4,some 5,some 8],rfl,rfl,⟨⟨rfl,rfl,rfl,.inr ⟨⟨rfl,rfl,rfl,rfl,rfl,rfl,rfl,rfl,⟨rfl,rfl,rfl,fun h=>h⟩,⟨rfl,rfl,rfl,fun h=>h⟩,trivial⟩,trivial⟩⟩,p7,p7,⟨rfl,rfl,rfl,.inl ⟨rfl,J0 x⟩⟩,⟨rfl,rfl,rfl,.inl ⟨rfl,c8 _⟩⟩,⟨rfl,rfl,rfl,.inl ⟨rfl,c8 _⟩⟩,b8 rfl rfl rfl ?_ rfl,trivial⟩,⟨⟨rfl,rfl,rfl⟩,rfl,⟨rfl,rfl,rfl⟩,rfl,rfl,⟨rfl,rfl,?_,fun h=>h⟩,rfl,rfl,rfl,rfl,rfl,trivial⟩⟩
      ·rw [et];exact a0o (w:=(a08 e k (m'+1),((-1:Int):Rat))) rfl
      ·rw [et];simp [toC]
     by_cases c2:y.dst=x.src
     ·have et:n8 e x.src (m'+1) (k+1)=n8 e x.src (m'+1) k++[(a08 e k (m'+1),((1:Int):Rat))]:=by rw [X6 hy,if_neg c1,if_pos c2]
      conv=>whnf
      have vq:=fun (R:Hp)=>a74 (H:=hpM e x M (m'+1)++R) (e:=e) (L:=M) (r:=4) (o:=5) rfl rfl rfl ⟨(by intro h;cases h),rfl,rfl,rfl⟩ ⟨(by intro h;cases h),rfl,rfl,rfl⟩ ⟨(by intro h;cases h),rfl,rfl,rfl⟩ k (m'+1) n0 (by omega) (by omega)
      repeat' (first|refine zx ?_|refine qp i1 ?_|refine qp im ?_|refine d7 hyt ?_|refine .inl ⟨_,_,vq _,?_⟩|refine y9 lA lC ?_|refine zd ?_ ?_<;>intro h<;>try omega|fail)<;>conv=>whnf
      all_goals try omega
      refine ⟨hkt,trivial,[some 0,some 1,some 2,some 3,some 4,some 5,some 8],rfl,rfl,⟨⟨rfl,rfl,rfl,.inr ⟨⟨rfl,rfl,rfl,rfl,rfl,rfl,rfl,rfl,⟨rfl,rfl,rfl,fun h=>h⟩,⟨rfl,rfl,rfl,fun h=>h⟩,trivial⟩,trivial⟩⟩,p7,p7,⟨rfl,rfl,rfl,.inl ⟨rfl,J0 x⟩⟩,⟨rfl,rfl,rfl,.inl ⟨rfl,c8 _⟩⟩,⟨rfl,rfl,rfl,.inl ⟨rfl,c8 _⟩⟩,b8 rfl rfl rfl ?_ rfl,trivial⟩,⟨⟨rfl,rfl,rfl⟩,rfl,⟨rfl,rfl,rfl⟩,rfl,rfl,⟨rfl,rfl,?_,fun h=>h⟩,rfl,rfl,rfl,rfl,rfl,trivial⟩⟩
      ·rw [et];exact a0o (w:=(a08 e k (m'+1),((1:Int):Rat))) rfl
      ·rw [et];simp [toC]
     ·have et:n8 e x.src (m'+1) (k+1)=n8 e x.src (m'+1) k:=by rw [X6 hy,if_neg c1,if_neg c2]
      conv=>whnf
      repeat' (first|refine zx ?_|refine qp i1 ?_|refine qp im ?_|refine d7 hyt ?_|refine y9 lA lC ?_|refine zd ?_ ?_<;>intro h<;>try omega|fail)<;>conv=>whnf
      all_goals try omega
      refine ⟨hkt,trivial,[some 0,some 1,some 2,some 3,some 4,some 5,some 6],rfl,rfl,⟨⟨rfl,rfl,rfl,.inr ⟨⟨rfl,rfl,rfl,rfl,rfl,rfl,rfl,rfl,⟨rfl,rfl,rfl,fun h=>h⟩,⟨rfl,rfl,rfl,fun h=>h⟩,trivial⟩,trivial⟩⟩,p7,p7,⟨rfl,rfl,rfl,.inl ⟨rfl,J0 x⟩⟩,⟨rfl,rfl,rfl,.inl ⟨rfl,c8 _⟩⟩,⟨rfl,rfl,rfl,.inl ⟨rfl,c8 _⟩⟩,b8 rfl rfl rfl ?_ rfl,trivial⟩,⟨⟨rfl,rfl,rfl⟩,rfl,⟨rfl,rfl,rfl⟩,rfl,rfl,⟨rfl,rfl,?_,fun h=>h⟩,rfl,rfl,rfl,rfl,rfl,trivial⟩⟩
      ·rw [et]
      ·rw [et]
    have hke:k=i+1:=by omega
    subst hke
    conv=>whnf
    repeat' (first|refine zx ?_|refine zd ?_ ?_<;>intro h<;>try omega|fail)<;>conv=>whnf
    all_goals try omega
    refine .inr ⟨[some 0,some 1,some 2,some 3,some 4,some 5],[S.c (C.ptr 0 0 0),a8 .i64 i,J,J,S.c (C.ptr 3 0 0),a8 .i64 K,a8 .i64 (((m'+1):Nat):Int),S.c (C.t (a2E (n8 e x.src (m'+1) (i+1))))]++Jn 17++[a8 .i64 e.mats,a8 .i64 (((m'+1):Nat):Int),J,J,J,J,J,J,J,J,J,S.c (C.t (Q7 (e.moves.take (i+1)))),a8 .i64 ((i+1:Nat):Int),a8 .i64 ((i+1:Nat):Int)]++Jn 38,hpM e x M (m'+1),⟨rfl,rfl,⟨⟨rfl,rfl,rfl,.inr ⟨⟨rfl,rfl,rfl,rfl,rfl,rfl,rfl,rfl,⟨rfl,rfl,rfl,fun h=>h⟩,⟨rfl,rfl,rfl,fun h=>h⟩,trivial⟩,trivial⟩⟩,p7,p7,⟨rfl,rfl,rfl,.inl ⟨rfl,J0 x⟩⟩,⟨rfl,rfl,rfl,.inl ⟨rfl,c8 _⟩⟩,⟨rfl,rfl,rfl,.inl ⟨rfl,c8 _⟩⟩,trivial⟩,⟨⟨rfl,rfl,rfl⟩,rfl,⟨rfl,rfl,rfl⟩,rfl,rfl,ae8 (k:=a1g (n8 e x.src (m'+1) (i+1))) rfl rfl (by intro h;cases h) rfl rfl (by rw [lbr]),rfl,rfl,rfl,rfl,rfl,trivial⟩⟩,?_⟩
    have ad:=a4h (H:=hpM e x M (m'+1)) (e:=e) (L:=M) (r:=4) (o:=5) rfl rfl rfl rfl rfl rfl (by decide) (by decide) (by decide) (by omega) (n8 e x.src (m'+1) (i+1)) K ((0:Int):Rat) ⟨0,i,(((m'+1):Nat):Int),-1⟩
    rw [show M++[((⟨n8 e x.src (m'+1) (i+1),K,((0:Int):Rat)⟩:k7),(⟨0,i,(((m'+1):Nat):Int),-1⟩:OrP))]=L++G0 e i x ((m'+1)+1) from hst.symm] at ad
    conv=>whnf
    repeat' (first|refine zx ?_|refine qp i0 ?_|refine .inr ⟨_,_,ad,?_⟩|refine zd ?_ ?_<;>intro h<;>try omega|fail)<;>conv=>whnf
    all_goals try omega
    exact ⟨hlt,trivial,[some 0,some 1,some 2,some 3,some 6,some 7],rfl,rfl,⟨⟨rfl,rfl,rfl,.inr ⟨⟨rfl,rfl,rfl,rfl,rfl,rfl,rfl,rfl,⟨rfl,rfl,rfl,fun h=>h⟩,⟨rfl,rfl,rfl,fun h=>h⟩,trivial⟩,trivial⟩⟩,p7,p7,⟨rfl,rfl,rfl,.inl ⟨rfl,J0 x⟩⟩,⟨rfl,rfl,rfl,.inl ⟨rfl,c8 _⟩⟩,⟨rfl,rfl,rfl,.inl ⟨rfl,c8 _⟩⟩,trivial⟩,⟨⟨rfl,rfl,rfl⟩,rfl,⟨rfl,rfl,rfl⟩,rfl,rfl,rfl,trivial⟩⟩
  ·obtain ⟨m',rfl⟩:∃m',m=m'+1:=⟨m - 1,by omega⟩
   have hme:m'+1=e.mats.toNat:=by omega
   show a13 _ _ _ _ (_,_).1 (_,_).2 _
   conv=>whnf
   repeat' (first|refine zx ?_|refine zd ?_ ?_<;>intro h<;>try omega|fail)<;>conv=>whnf
   all_goals try omega
   rw [← hme]
   exact ⟨⟨[some 0,some 1,some 2,some 4,some 5],rfl,rfl,⟨⟨rfl,rfl,rfl,.inr ⟨⟨rfl,rfl,rfl,rfl,rfl,rfl,rfl,rfl,⟨rfl,rfl,rfl,fun h=>h⟩,⟨rfl,rfl,rfl,fun h=>h⟩,trivial⟩,trivial⟩⟩,p7,p7,⟨rfl,rfl,rfl,.inl ⟨rfl,c8 _⟩⟩,⟨rfl,rfl,rfl,.inl ⟨rfl,c8 _⟩⟩,trivial⟩,trivial⟩⟩
theorem a2s {ρ:List (Option Nat)} {H:Hp} {e:Ev} {r o r' o' n n':Nat} (h1:ρ[r']? =some (some r)) (h2:ρ[o']? =some (some o)) (hn:n=n'):a1f ρ H (mkB e r o n) (mkB e r' o' n'):=
 ⟨rfl,rfl,rfl,.inr ⟨⟨rfl,rfl,rfl,rfl,rfl,rfl,rfl,rfl,⟨h1,rfl,hn,fun h=>h⟩,⟨h2,rfl,hn,fun h=>h⟩,trivial⟩,trivial⟩⟩
theorem D6 {ρ:List (Option Nat)} {H:Hp} {k:Blk} {rows:List (List T)} (h:k.rows=toC rows):a1f ρ H k k:=⟨by unfold a2A;cases k.mode<;>simp,rfl,rfl,.inl ⟨rfl,h ▸ c8 rows⟩⟩
set_option maxHeartbeats 4000000 in
theorem b2R (e:Ev) (hs:e.Sized) {i:Nat} {x:j6} (hx:e.moves[i]? =some x) (L:List (k7 × OrP)) (hiv:a2w e x=none):
 b7 Tryz.prog 122 [.c (.ptr 0 0 0),a8 .i64 i] (hp0 e L) (.tup []) (hp0 e L):=by
 have m0:(e.moves.map j6.row).length=e.moves.length:=by simp
 have iv:=a6y e.certs e.recalls hs.s3 hs.s4 x.scale x.reading x.day
 have fin0:∀R:Hp,Fin 3 (.tup []) (hp0 e L++R) (.tup []) (hp0 e L):=fun R=>⟨[some 0,some 1,some 2],rfl,rfl,⟨a2s rfl rfl rfl,D6 rfl,D6 rfl,trivial⟩,trivial⟩
 by_cases hsc:x.scale=-1
 ·(refine ac Tryz.func122 ?_;(conv=>whnf);repeat ((first|refine b0x ?_|refine zy ?_);conv=>whnf))
  repeat' (first|refine zx ?_|refine d7 hx ?_|refine zd ?_ ?_<;>intro h<;>try omega|fail)<;>conv=>whnf
  all_goals first
   |omega
   |exact fin0 [_]
 ·have hiv2:L7 e.certs e.recalls x.scale x.reading x.day=none:=by unfold a2w at hiv;rwa [if_neg hsc] at hiv
  rw [hiv2] at iv
  (refine ac Tryz.func122 ?_;(conv=>whnf);repeat ((first|refine b0x ?_|refine zy ?_);conv=>whnf))
  repeat' (first|refine zx ?_|refine qp iv ?_|refine qp (19,20) ?_|refine qp 20 ?_|refine d7 hx ?_|refine bl0 [19,20] ?_|refine bl0 [20] ?_|refine zd ?_ ?_<;>intro h<;>try omega|fail)<;>conv=>whnf
  all_goals first
   |omega
   |exact fin0 [_,_,_]
set_option maxHeartbeats 4000000 in
theorem b2l (e:Ev) (hs:e.Sized) (hm0:0<=e.mats) (hm6:e.mats<=6) {i:Nat} {x:j6} (hx:e.moves[i]? =some x) (hi2:i<=1000) (L:List (k7 × OrP)) (hL:L.length<=100000) {lo hi:Rat} (hiv:a2w e x=some (lo,hi)):
 b7 Tryz.prog 122 [.c (.ptr 0 0 0),a8 .i64 i] (hp0 e L) (.tup []) (hp1 e (L++R9 e i x)):=by
 have m0:(e.moves.map j6.row).length=e.moves.length:=by simp
 have iv:=a6y e.certs e.recalls hs.s3 hs.s4 x.scale x.reading x.day
 have hsc:x.scale≠-1:=fun h=>by unfold a2w at hiv;rw [if_pos h] at hiv;cases hiv
 have hiv2:L7 e.certs e.recalls x.scale x.reading x.day=some (lo,hi):=by unfold a2w at hiv;rwa [if_neg hsc] at hiv
 rw [hiv2] at iv
 obtain ⟨L1,hL1⟩:∃L1:List (k7 × OrP),L1=L++[((⟨Y9 e i 1 (-1) 0,0,lo⟩:k7),(⟨1,i,-1,-1⟩:OrP))]:=⟨_,rfl⟩
 obtain ⟨L2,hL2⟩:∃L2:List (k7 × OrP),L2=L1++[((⟨Y9 e i 1 (-1) 0,1,hi⟩:k7),(⟨2,i,-1,-1⟩:OrP))]:=⟨_,rfl⟩
 have hW:L++R9 e i x=L2:=by rw [hL2,hL1];unfold R9;rw [hiv];simp
 have l1:L1.length<=100001:=by rw [hL1];simp;omega
 rw [hW]
 have s1:=fun (R:Hp)=>a5z (H:=hp0 e L++R) (e:=e) (L:=L) (r:=1) (o:=2) rfl rfl rfl ⟨(by intro h;cases h),rfl,rfl,rfl⟩ ⟨(by intro h;cases h),rfl,rfl,rfl⟩ ⟨(by intro h;cases h),rfl,rfl,rfl⟩ hm0 hm6 i hi2 1 (-1) 0 (by decide) (by decide)
 have a1:=fun (R:Hp)=>a4h (H:=hp0 e L++R) (e:=e) (L:=L) (r:=1) (o:=2) rfl rfl rfl rfl rfl rfl (by decide) (by decide) (by decide) (by omega) (Y9 e i 1 (-1) 0) 0 lo ⟨1,i,-1,-1⟩
 rw [← hL1] at a1
 have s2:=fun (k1 k2 k3 k4 k5 k6:Blk)=>a5z (H:=[mkB e 7 8 L1.length,k1,k2,k3,k4,k5,k6,rB L1,oB L1]) (e:=e) (L:=L1) (r:=7) (o:=8) rfl rfl rfl ⟨(by intro h;cases h),rfl,rfl,rfl⟩ ⟨(by intro h;cases h),rfl,rfl,rfl⟩ ⟨(by intro h;cases h),rfl,rfl,rfl⟩ hm0 hm6 i hi2 1 (-1) 0 (by decide) (by decide)
 have a2:=fun (k1 k2 k3 k4 k5 k6:Blk)=>a4h (H:=[mkB e 7 8 L1.length,k1,k2,k3,k4,k5,k6,rB L1,oB L1]) (e:=e) (L:=L1) (r:=7) (o:=8) rfl rfl rfl rfl rfl rfl (by decide) (by decide) (by decide) (by omega) (Y9 e i 1 (-1) 0) 1 hi ⟨2,i,-1,-1⟩
 rw [← hL2] at a2
 (refine ac Tryz.func122 ?_;(conv=>whnf);repeat ((first|refine b0x ?_|refine zy ?_);conv=>whnf))
 repeat' (first|refine zx ?_|refine qp iv ?_|refine qp (19,20) ?_|refine qp 20 ?_|refine qp (_,_,_,_) ?_|refine qp (_,_,_,_) ?_|refine d7 hx ?_|refine bl0 [19,20] ?_|refine bl0 [20] ?_|refine .inl ⟨_,_,s1 [_,_,_,_],?_⟩|refine .inr ⟨_,_,a1 [_,_,_,_],?_⟩|refine .inl ⟨_,_,s2 _ _ _ _ _ _,?_⟩|refine .inr ⟨_,_,a2 _ _ _ _ _ _,?_⟩|refine zd ?_ ?_<;>intro h<;>try omega|fail)<;>conv=>whnf
 all_goals first
  |omega
  |exact ⟨⟨[some 0,some 1,some 2,some 9,some 10],rfl,rfl,⟨a2s rfl rfl rfl,p7,p7,D6 rfl,D6 rfl,trivial⟩,trivial⟩⟩
end Go.Proofs.YtaejgdbahjjncaaGreat
