/- Part 12. -/
import Derived.Test.YtaejgdbahjjncaaGreatUj11
namespace Go.Proofs.YtaejgdbahjjncaaGreat
set_option linter.unusedVariables false
set_option linter.unusedSimpArgs false
set_option maxRecDepth 100000
open Go.RowKit
open St1 St2 St3 St4 St5 St6 St7 St8 StA StB
def a7x (y:Nat->Rat) (r:Nat) (p:Rat):Nat->Rat:=fun i=>if i=r then y i+p else y i
theorem b9P (b:Bool) (p:Rat):rl (V3 b p)=rl p:=by cases b;rfl;exact S8 p
set_option maxHeartbeats 2000000 in
theorem a6N (m n:Nat) (fr:List (Nat × Bool)) (D:Fd) (R:Nat) (y:Nat->Rat) (k row:Nat) (b:Bool) (p:Rat) (hk:fr[k]? =some (row,b)) (hr:row<R) (hp:rl p<=50000) (hy:rl (y row)<=50000):
 b7 Tryz.prog 249 [dT m n fr D,.c (.own 0 0 R true),a8 .i64 k,frS (fz p)] [flB (rF R y)] (.tup []) [flB (rF R (a7x y row (-(V3 b p))))]:=by
 have m1:(a0b fr).length=fr.length:=by simp [a0b]
 have eR:0+(row:Int).toNat=row:=by omega
 have gp:(rF R y)[0+(row:Int).toNat]? =some (fz (y row)):=by rw [eR,J2 hr]
 have ng:=a0Z p (by omega)
 cases b with
 |true=>
  have ad:=a0y (y row) p (by omega) (by omega)
  have e:q9 (flB (rF R y)) ((flB (rF R y)).rows.set (0+(row:Int).toNat) (frC (fz (y row+p))))=flB (rF R (a7x y row (-(V3 true p)))):=by
   rw [M4 eR,Z0 hr]
   refine congrArg flB (H9 fun j hj=>?_)
   show (if j=row then y row+p else y j)=if j=row then y j+- -p else y j
   by_cases h:j=row
   ·subst h;rw [if_pos rfl,if_pos rfl,Rat.neg_neg]
   ·rw [if_neg h,if_neg h]
  (refine ac Tryz.func249 ?_;(conv=>whnf);repeat (refine zy ?_;conv=>whnf))
  repeat' (first|refine zx ?_|refine qp ng ?_|refine qp ad ?_|refine qp 12 ?_|refine d7 hk ?_|refine p4 gp ?_|refine bl0 [12] ?_|refine zd ?_ ?_<;>intro h<;>try omega|fail)<;>conv=>whnf
  all_goals first
   |omega
   |(exfalso;simp_all;done)
   |exact ⟨[some 0],rfl,rfl,⟨⟨rfl,rfl,rfl,.inl ⟨congrArg Blk.rows e,(congrArg Blk.rows e) ▸ c8 _⟩⟩,trivial⟩,trivial⟩
 |false=>
  have ad:=a0y (y row) (-p) (by omega) (by rw [S8];omega)
  have e:q9 (flB (rF R y)) ((flB (rF R y)).rows.set (0+(row:Int).toNat) (frC (fz (y row+-p))))=flB (rF R (a7x y row (-(V3 false p)))):=by
   rw [M4 eR,Z0 hr]
   refine congrArg flB (H9 fun j hj=>?_)
   show (if j=row then y row+-p else y j)=if j=row then y j+-p else y j
   by_cases h:j=row
   ·subst h;rfl
   ·rw [if_neg h,if_neg h]
  (refine ac Tryz.func249 ?_;(conv=>whnf);repeat (refine zy ?_;conv=>whnf))
  repeat' (first|refine zx ?_|refine qp ng ?_|refine qp ad ?_|refine qp 12 ?_|refine d7 hk ?_|refine p4 gp ?_|refine bl0 [12] ?_|refine zd ?_ ?_<;>intro h<;>try omega|fail)<;>conv=>whnf
  all_goals first
   |omega
   |(exfalso;simp_all;done)
   |exact ⟨[some 0],rfl,rfl,⟨⟨rfl,rfl,rfl,.inl ⟨congrArg Blk.rows e,(congrArg Blk.rows e) ▸ c8 _⟩⟩,trivial⟩,trivial⟩
def yK (z:Nat->Rat) (f:Nat->Nat->Rat) (k:Nat):Nat->Rat:=fun i=>z i+i7 (fun j=>f j i) k
theorem a57 {z:Nat->Rat} {f:Nat->Nat->Rat} {k:Nat}:yK z f (k+1)=fun i=>yK z f k i+f k i:=by
 funext i;unfold yK;simp only [i7];grind
theorem a0B {f:Nat->Rat} {B:Nat}:∀k:Nat,(∀ j,j<k->rl (f j)<=B)->rl (i7 f k)<=k*(B+1)+1
 |0,_=>by
  have h0:=rl0
  have e:i7 f 0=0:=by simp only [i7,O1]
  rw [e];omega
 |k+1,h=>by
  have h1:=a0B k fun j hj=>h j (by omega)
  have h2:=h k (by omega)
  have h3:=a0q (i7 f k) (f k)
  simp only [i7]
  rw [lbU]
  omega
theorem aB9 {s:g6} {w i B:Nat} {p:Rat} (h:rl p<=B) (hB:1<=B):rl (chg s w p i)<=B:=by
 unfold chg
 split
 ·rw [S8,b9P];exact h
 ·have:=rl0;omega
theorem a9C {s:g6} {w:Nat} {p:Rat} (h:w<s.n.toNat):chg s w p=fun _=>0:=by
 funext i;unfold chg;rw [if_neg (fun e=>by omega)]
theorem az3 {s:g6} {w k row:Nat} {b:Bool} {p:Rat} (hw:w=s.n.toNat+k) (hf:(d6 s)[k]? =some (row,b)) (y:Nat->Rat):a7x y row (-(V3 b p))=fun i=>y i+chg s w p i:=by
 funext i
 have e:J9 s (w - s.n.toNat)=(row,b):=by unfold J9;rw [show w - s.n.toNat=k by omega,lbl,hf];rfl
 unfold a7x chg
 rw [e]
 by_cases h:i=row
 ·subst h;rw [if_pos rfl,if_pos ⟨by omega,rfl⟩]
 ·rw [if_neg h,if_neg (fun e=>h e.2.symm)];grind
theorem a7c {s:g6} {k:Nat} {f:Nat × Bool} (h:(d6 s)[k]? =some f):f.1<s.rows.length:=by
 obtain ⟨w,hw,_⟩:=a0h.1 (lbm h)
 exact (lbe.1 hw).1
set_option maxHeartbeats 2000000 in
theorem b3d (s:g6) (n:Nat) (hn:s.n=n) (E:Fd) (hP:a0U (d6 s).length n E) (B:Nat) (hB:∀j,j<n->rl (E.G j)<=B) (hB1:1<=B) (hBn:(n+2)*(B+2)<=50000) (hm:(d6 s).length<=100000) (hR:s.rows.length<=1000) (hn1:n<=1000):
 b7 Tryz.prog 200 [dT (d6 s).length n (d6 s) E,a8 .i64 s.rows.length] [] (.c (.own 0 0 s.rows.length true)) [flB (rF s.rows.length (a3d s E))]:=by
 have m1:(a0S n E.F).length=n:=x5 _ _
 have hnn:s.n.toNat=n:=by omega
 have z0:∀H:Hp,H.length=0->Q6 Tryz.prog 241 [a8 .i64 s.rows.length] H (.c (.own 0 0 s.rows.length true)) [flB (rF s.rows.length fun _=>0)]:=fun H hH=>a0r hH hR
 have eB:B<=50000:=by
  have:(n+2)*(B+2)=n*(B+2)+2*(B+2):=by rw [Nat.add_mul]
  omega
 obtain ⟨f,hf⟩:∃f:Nat->Nat->Rat,f=fun j=>chg s (E.F j) (-(E.G j)):=⟨_,rfl⟩
 have e9:a3d s E=yK (fun _=>0) f n:=by
  funext i;unfold a3d yK;rw [hf,hnn];grind
 rw [e9]
 (refine ac Tryz.func200 ?_;(conv=>whnf);repeat ((first|refine b0x ?_|refine zy ?_);conv=>whnf))
 repeat' (first|refine zx ?_|refine .inl ⟨_,_,z0 _ rfl,?_⟩|refine zd ?_ ?_<;>intro h<;>try omega|fail)<;>conv=>whnf
 refine f8 c7 (fun k=>([dT (d6 s).length n (d6 s) E,J,J,J,J,S.c (C.own 0 0 s.rows.length true),J,J,J,J,J,J,J,a6D n E.F,a8 .i64 n,a8 .i64 k]++Jn 29,[flB (rF s.rows.length (yK (fun _=>0) f k))])) n (fun _=>True) [some 0] trivial
  ⟨rfl,rfl,⟨b8 (rows:=(rF s.rows.length (fun _=>0)).map j5) rfl rfl rfl rfl ?_,trivial⟩,⟨i5 rfl,⟨rfl,rfl,rfl,fun h=>h⟩,i5 rfl,c6 (by omega),c6 rfl,trivial⟩⟩ ?_
 ·rw [H9 (g:=yK (fun _=>0) f 0) (h:=fun _=>0) fun j hj=>by unfold yK;simp only [i7,O1];grind]
 intro k hk _
 by_cases hlt:k<n
 ·have ng:=a0Z (E.G k) (by have:=hB k hlt;omega)
  by_cases ho:E.F k<n
  ·have e:yK (fun _=>0) f (k+1)=yK (fun _=>0) f k:=by
    rw [a57,hf];funext i
    have e0:chg s (E.F k) (-(E.G k)) i=0:=by rw [a9C (by omega)]
    show _+chg s (E.F k) (-(E.G k)) i=_
    rw [e0];grind
   conv=>whnf
   repeat' (first|refine zx ?_|refine F9 rfl hlt ?_|refine zd ?_ ?_<;>intro h<;>try omega|fail)<;>conv=>whnf
   all_goals first
    |omega
    |exact ⟨hlt,trivial,[some 0],rfl,rfl,⟨b8 (rows:=(rF s.rows.length (yK (fun _=>0) f k)).map j5) rfl rfl rfl rfl (by rw [e]),trivial⟩,⟨rfl,⟨rfl,rfl,rfl,fun h=>h⟩,rfl,rfl,c6 (by omega),trivial⟩⟩
  ·have hfb:=hP.fb k hlt
   obtain ⟨q,hq⟩:∃q,E.F k=n+q:=⟨E.F k - n,by omega⟩
   obtain ⟨⟨row,b⟩,hfr⟩:∃x,(d6 s)[q]? =some x:=⟨_,lbf (by omega)⟩
   have hrow:row<s.rows.length:=a7c hfr
   have by1:rl (yK (fun _=>0) f k row)<=50000:=by
    have h1:=a0B (f:=fun j=>f j row) (B:=B) k fun j hj=>by rw [hf];exact aB9 (by rw [S8];exact hB j (by omega)) hB1
    have e:yK (fun _=>0) f k row=i7 (fun j=>f j row) k:=by unfold yK;grind
    rw [e]
    have:k*(B+1)<=n*(B+1):=lbT _ (by omega)
    have:(n+2)*(B+2)=n*(B+1)+n+2*(B+2):=by rw [Nat.add_mul,show n*(B+2)=n*(B+1)+n by rw [Nat.mul_add,Nat.mul_add];omega]
    omega
   have ch:=a6N (d6 s).length n (d6 s) E s.rows.length (yK (fun _=>0) f k) q row b (-(E.G k)) hfr hrow (by rw [S8];have:=hB k hlt;omega) by1
   have e:a7x (yK (fun _=>0) f k) row (-(V3 b (-(E.G k))))=yK (fun _=>0) f (k+1):=by rw [az3 (s:=s) (w:=E.F k) (by omega) hfr,a57,hf]
   rw [e,show ((q:Nat):Int)=(E.F k:Int) - n by omega] at ch
   conv=>whnf
   repeat' (first|refine zx ?_|refine qp ng ?_|refine F9 rfl hlt ?_|refine a4H rfl hlt ?_|refine .inr ⟨_,_,ch,?_⟩|refine zd ?_ ?_<;>intro h<;>try omega|fail)<;>conv=>whnf
   all_goals first
    |omega
    |exact ⟨hlt,trivial,[some 0],rfl,rfl,⟨i6 (c8 _),trivial⟩,⟨rfl,⟨rfl,rfl,rfl,fun h=>h⟩,rfl,rfl,c6 (by omega),trivial⟩⟩
 ·have hke:k=n:=by omega
  subst hke
  conv=>whnf
  repeat' (first|refine zx ?_|refine zd ?_ ?_<;>intro h<;>try omega|fail)<;>conv=>whnf
  all_goals first
   |omega
   |exact ⟨[some 0],rfl,rfl,⟨i6 (c8 _),trivial⟩,⟨rfl,rfl,rfl,fun h=>h⟩⟩
set_option maxHeartbeats 2000000 in
theorem ax3 (s:g6) (n r:Nat) (hn:s.n=n) (E:Fd) (hP:a0U (d6 s).length n E) (hr:r<(d6 s).length) (B:Nat) (hB:∀j,j<n->rl (E.A r j)<=B) (hB1:1<=B) (hBn:(n+3)*(B+2)<=50000) (hm:(d6 s).length<=100000) (hR:s.rows.length<=1000) (hn1:n<=1000):
 b7 Tryz.prog 199 [dT (d6 s).length n (d6 s) E,a8 .i64 s.rows.length,a8 .i64 r] [] (.c (.own 0 0 s.rows.length true)) [flB (rF s.rows.length (Z6 s E r))]:=by
 have m1:(a0S n E.F).length=n:=x5 _ _
 have hnn:s.n.toNat=n:=by omega
 have z0:∀H:Hp,H.length=0->Q6 Tryz.prog 241 [a8 .i64 s.rows.length] H (.c (.own 0 0 s.rows.length true)) [flB (rF s.rows.length fun _=>0)]:=fun H hH=>a0r hH hR
 have i1:=D2 1 (by decide) (by decide)
 have eBn:(n+3)*(B+2)=n*(B+1)+n+3*(B+2):=by rw [Nat.add_mul,show n*(B+2)=n*(B+1)+n by rw [Nat.mul_add,Nat.mul_add];omega]
 have eB:B<=50000:=by omega
 obtain ⟨f,hf⟩:∃f:Nat->Nat->Rat,f=fun j=>chg s (E.F j) (E.A r j):=⟨_,rfl⟩
 obtain ⟨z,hz⟩:∃z:Nat->Rat,z=chg s (E.O r) 1:=⟨_,rfl⟩
 have zb:∀i,rl (z i)<=B:=fun i=>by rw [hz];exact aB9 (by have:=rl1;omega) hB1
 have e9:Z6 s E r=yK z f n:=by
  funext i;unfold Z6 yK;rw [hf,hnn,hz]
 rw [e9]
 have hob:=hP.ob r hr
 by_cases ho:E.O r<n
 ·have ez:z=fun _=>0:=by rw [hz,a9C (by omega)]
  (refine ac Tryz.func199 ?_;(conv=>whnf);repeat ((first|refine b0x ?_|refine zy ?_);conv=>whnf))
  repeat' (first|refine zx ?_|refine .inl ⟨_,_,z0 _ rfl,?_⟩|refine F9 rfl hr ?_|refine zd ?_ ?_<;>intro h<;>try omega|fail)<;>conv=>whnf
  all_goals try omega
  refine f8 c7 (fun k=>([dT (d6 s).length n (d6 s) E,J,a8 .i64 r,J,J,J,J,S.c (C.own 0 0 s.rows.length true)]++Jn 31++[a6D n E.F,a8 .i64 n,a8 .i64 k]++Jn 32,[flB (rF s.rows.length (yK z f k))])) n (fun _=>True) [some 0] trivial
   ⟨rfl,rfl,⟨b8 (rows:=(rF s.rows.length z).map j5) rfl rfl rfl (by rw [ez]) ?_,trivial⟩,⟨i5 rfl,c6 rfl,⟨rfl,rfl,rfl,fun h=>h⟩,i5 rfl,c6 (by omega),c6 rfl,trivial⟩⟩ ?_
  ·rw [H9 (g:=yK z f 0) (h:=z) fun j hj=>by unfold yK;simp only [i7,O1];grind]
  intro k hk _
  by_cases hlt:k<n
  ·have ba:=hB k hlt
   by_cases ho2:E.F k<n
   ·have e:yK z f (k+1)=yK z f k:=by
     rw [a57,hf];funext i
     have e0:chg s (E.F k) (E.A r k) i=0:=by rw [a9C (by omega)]
     show _+chg s (E.F k) (E.A r k) i=_
     rw [e0];grind
    conv=>whnf
    repeat' (first|refine zx ?_|refine F9 rfl hlt ?_|refine zd ?_ ?_<;>intro h<;>try omega|fail)<;>conv=>whnf
    all_goals first
     |omega
     |exact ⟨hlt,trivial,[some 0],rfl,rfl,⟨b8 (rows:=(rF s.rows.length (yK z f k)).map j5) rfl rfl rfl rfl (by rw [e]),trivial⟩,⟨rfl,rfl,⟨rfl,rfl,rfl,fun h=>h⟩,rfl,rfl,c6 (by omega),trivial⟩⟩
   ·have hfb:=hP.fb k hlt
    obtain ⟨q2,hq2⟩:∃q2,E.F k=n+q2:=⟨E.F k - n,by omega⟩
    obtain ⟨⟨row2,b2⟩,hfr2⟩:∃x,(d6 s)[q2]? =some x:=⟨_,lbf (by omega)⟩
    have hrow2:row2<s.rows.length:=a7c hfr2
    have by1:rl (yK z f k row2)<=50000:=by
     have h1:=a0B (f:=fun j=>f j row2) (B:=B) k fun j hj=>by rw [hf];exact aB9 (hB j (by omega)) hB1
     have h2:=a0q (z row2) (i7 (fun j=>f j row2) k)
     have h3:=zb row2
     have:k*(B+1)<=n*(B+1):=lbT _ (by omega)
     unfold yK
     omega
    have ch2:=a6N (d6 s).length n (d6 s) E s.rows.length (yK z f k) q2 row2 b2 (E.A r k) hfr2 hrow2 (by omega) by1
    have e:a7x (yK z f k) row2 (-(V3 b2 (E.A r k)))=yK z f (k+1):=by rw [az3 (s:=s) (w:=E.F k) (by omega) hfr2,a57,hf]
    rw [e,show ((q2:Nat):Int)=(E.F k:Int) - n by omega] at ch2
    conv=>whnf
    repeat' (first|refine zx ?_|refine F9 rfl hlt ?_|refine a0Q rfl hr ?_|refine a4H rfl hlt ?_|refine .inr ⟨_,_,ch2,?_⟩|refine zd ?_ ?_<;>intro h<;>try omega|fail)<;>conv=>whnf
    all_goals first
     |omega
     |exact ⟨hlt,trivial,[some 0],rfl,rfl,⟨i6 (c8 _),trivial⟩,⟨rfl,rfl,⟨rfl,rfl,rfl,fun h=>h⟩,rfl,rfl,c6 (by omega),trivial⟩⟩
  ·have hke:k=n:=by omega
   subst hke
   conv=>whnf
   repeat' (first|refine zx ?_|refine zd ?_ ?_<;>intro h<;>try omega|fail)<;>conv=>whnf
   all_goals first
    |omega
    |exact ⟨[some 0],rfl,rfl,⟨i6 (c8 _),trivial⟩,⟨rfl,rfl,rfl,fun h=>h⟩⟩
 ·obtain ⟨q,hq⟩:∃q,E.O r=n+q:=⟨E.O r - n,by omega⟩
  obtain ⟨⟨row,b⟩,hfr⟩:∃x,(d6 s)[q]? =some x:=⟨_,lbf (by omega)⟩
  have hrow:row<s.rows.length:=a7c hfr
  have ch:=a6N (d6 s).length n (d6 s) E s.rows.length (fun _=>0) q row b 1 hfr hrow (by have:=rl1;omega) (by have:=rl0;omega)
  have e:rF s.rows.length (a7x (fun _=>0) row (-(V3 b 1)))=rF s.rows.length z:=H9 fun j hj=>by
   rw [az3 (s:=s) (w:=E.O r) (by omega) hfr,hz];grind
  rw [e,show ((q:Nat):Int)=(E.O r:Int) - n by omega] at ch
  have ch:b7 Tryz.prog 249 [dT (d6 s).length n (d6 s) E,.c (.own 0 0 s.rows.length true),a8 .i64 ((E.O r:Int) - n),frS (fz ((1:Int):Rat))] [flB (rF s.rows.length fun _=>0)] (.tup []) [flB (rF s.rows.length z)]:=ch
  (refine ac Tryz.func199 ?_;(conv=>whnf);repeat ((first|refine b0x ?_|refine zy ?_);conv=>whnf))
  repeat' (first|refine zx ?_|refine qp i1 ?_|refine .inl ⟨_,_,z0 _ rfl,?_⟩|refine F9 rfl hr ?_|refine .inr ⟨_,_,ch,?_⟩|refine zd ?_ ?_<;>intro h<;>try omega|fail)<;>conv=>whnf
  all_goals try omega
  refine f8 c7 (fun k=>([dT (d6 s).length n (d6 s) E,J,a8 .i64 r,J,J,J,J,S.c (C.own 0 0 s.rows.length true)]++Jn 31++[a6D n E.F,a8 .i64 n,a8 .i64 k]++Jn 32,[flB (rF s.rows.length (yK z f k))])) n (fun _=>True) [some 0] trivial
   ⟨rfl,rfl,⟨b8 (rows:=(rF s.rows.length z).map j5) rfl rfl rfl (rfl) ?_,trivial⟩,⟨i5 rfl,c6 rfl,⟨rfl,rfl,rfl,fun h=>h⟩,i5 rfl,c6 (by omega),c6 rfl,trivial⟩⟩ ?_
  ·rw [H9 (g:=yK z f 0) (h:=z) fun j hj=>by unfold yK;simp only [i7,O1];grind]
  intro k hk _
  by_cases hlt:k<n
  ·have ba:=hB k hlt
   by_cases ho2:E.F k<n
   ·have e:yK z f (k+1)=yK z f k:=by
     rw [a57,hf];funext i
     have e0:chg s (E.F k) (E.A r k) i=0:=by rw [a9C (by omega)]
     show _+chg s (E.F k) (E.A r k) i=_
     rw [e0];grind
    conv=>whnf
    repeat' (first|refine zx ?_|refine F9 rfl hlt ?_|refine zd ?_ ?_<;>intro h<;>try omega|fail)<;>conv=>whnf
    all_goals first
     |omega
     |exact ⟨hlt,trivial,[some 0],rfl,rfl,⟨b8 (rows:=(rF s.rows.length (yK z f k)).map j5) rfl rfl rfl rfl (by rw [e]),trivial⟩,⟨rfl,rfl,⟨rfl,rfl,rfl,fun h=>h⟩,rfl,rfl,c6 (by omega),trivial⟩⟩
   ·have hfb:=hP.fb k hlt
    obtain ⟨q2,hq2⟩:∃q2,E.F k=n+q2:=⟨E.F k - n,by omega⟩
    obtain ⟨⟨row2,b2⟩,hfr2⟩:∃x,(d6 s)[q2]? =some x:=⟨_,lbf (by omega)⟩
    have hrow2:row2<s.rows.length:=a7c hfr2
    have by1:rl (yK z f k row2)<=50000:=by
     have h1:=a0B (f:=fun j=>f j row2) (B:=B) k fun j hj=>by rw [hf];exact aB9 (hB j (by omega)) hB1
     have h2:=a0q (z row2) (i7 (fun j=>f j row2) k)
     have h3:=zb row2
     have:k*(B+1)<=n*(B+1):=lbT _ (by omega)
     unfold yK
     omega
    have ch2:=a6N (d6 s).length n (d6 s) E s.rows.length (yK z f k) q2 row2 b2 (E.A r k) hfr2 hrow2 (by omega) by1
    have e:a7x (yK z f k) row2 (-(V3 b2 (E.A r k)))=yK z f (k+1):=by rw [az3 (s:=s) (w:=E.F k) (by omega) hfr2,a57,hf]
    rw [e,show ((q2:Nat):Int)=(E.F k:Int) - n by omega] at ch2
    conv=>whnf
    repeat' (first|refine zx ?_|refine F9 rfl hlt ?_|refine a0Q rfl hr ?_|refine a4H rfl hlt ?_|refine .inr ⟨_,_,ch2,?_⟩|refine zd ?_ ?_<;>intro h<;>try omega|fail)<;>conv=>whnf
    all_goals first
     |omega
     |exact ⟨hlt,trivial,[some 0],rfl,rfl,⟨i6 (c8 _),trivial⟩,⟨rfl,rfl,⟨rfl,rfl,rfl,fun h=>h⟩,rfl,rfl,c6 (by omega),trivial⟩⟩
  ·have hke:k=n:=by omega
   subst hke
   conv=>whnf
   repeat' (first|refine zx ?_|refine zd ?_ ?_<;>intro h<;>try omega|fail)<;>conv=>whnf
   all_goals first
    |omega
    |exact ⟨[some 0],rfl,rfl,⟨i6 (c8 _),trivial⟩,⟨rfl,rfl,rfl,fun h=>h⟩⟩
def a7i (ρ:List (Option Nat)) (H:Hp):Env->Env->Prop
 |[],[]=>True
 |s::r,s'::r'=>match s' with
  |.junk=>a7i ρ H r r'
  |s'=>(a5G ρ H s s'∨VYS H (fun id=>G3 ρ id=true) s s')∧a7i ρ H r r'
 |_,_=>False
theorem a7i.rel {ρ:List (Option Nat)} {H:Hp}:∀{env env':Env},a7i ρ H env env'->env.length=env'.length∧∀(t:Nat) (s':S),env'[t]? =some s'->∃s,env[t]? =some s∧(a5G ρ H s s'∨VYS H (fun id=>G3 ρ id=true) s s')
 |[],[],_=>⟨rfl,by simp⟩
 |s::r,s'::r',h=>by
  have h':(a5G ρ H s s'∨VYS H (fun id=>G3 ρ id=true) s s')∧a7i ρ H r r':=by
   cases s' with
   |junk=>exact ⟨.inl trivial,h⟩
   |_=>exact h
  obtain ⟨h1,h2⟩:=a7i.rel h'.2
  refine ⟨by simp [h1],fun t s'' ht=>?_⟩
  cases t with
  |zero=>simp at ht;subst ht;exact ⟨s,rfl,h'.1⟩
  |succ t=>simpa using h2 t s'' (by simpa using ht)
 |[],_::_,h=>h.elim
 |_::_,[],h=>h.elim
structure b7l (n0:Nat) (ρ:List (Option Nat)) (env:Env) (H:Hp) (env':Env) (H':Hp):Prop where
 k:a1M ρ n0=true
 n:V5 ρ H'=true
 h:a35 ρ H ρ H'
 e:a7i ρ H env env'
theorem b7l.sim {n0:Nat} {ρ:List (Option Nat)} {env env':Env} {H H':Hp} (h:b7l n0 ρ env H env' H') {w0:World} {ι0:Io} {M0:Ms} {H0:Hp} {a:Act} {w:World} (hn:H0.length=n0) (hM0:MB w0 M0)
 (hs:Sim w0 ι0 M0 H0 a w env H):Sim w0 ι0 M0 H0 a w env' H':=by
 obtain ⟨h1,h2,h3,h4⟩:=h
 obtain ⟨ι,M,hd,hsz,he,hH,hM,hF,hst⟩:=hs
 obtain ⟨hel,heg⟩:=a7i.rel h4
 obtain ⟨q1,q2,q3⟩:=a35.all h1 h2 h3 hn hM0 hH hst
 refine ⟨N5 ρ ι,_,hd,by omega,fun t s' ht=>?_,q1,fun b hb=>hM b hb.1,q2,q3⟩
 obtain ⟨s,r1,r2⟩:=heg t s' ht
 rcases r2 with r2|r2
 ·exact r2.rs hH (he t s r1)
 ·refine r2.rs hH (fun b hb=>hb.1) ?_ (he t s r1)
  intro id k b cap size hp hk hd hi hb
  exact hb.2 ⟨id,k,cap,size,hp,hk,hd,hi⟩
theorem a0L {P:Program} {τ:Tab} (hτ:C0 P τ) {n0:Nat} {x y:Code} {env:Env} {H:Hp} {Q:AX->Env->Hp->Prop} (E2:Env) (H2:Hp)
 (h:a13 P τ n0 x env H fun a env' H'=>match a with
   |.normal=>∃ρ,b7l n0 ρ env' H' E2 H2
   |a=>Q a env' H') (h2:Awp P n0 y E2 H2 Q):Awp P n0 (.seq x y) env H Q:=by
 refine ⟨fun w0 ι0 M0 H0 a w hn hM hs=>?_⟩
 refine wp_seq (wp_mono ((n9 hτ x h).out w0 ι0 M0 H0 a w hn hM hs) ?_)
 rintro e a' w' ⟨x,env',H',rfl,hq,hs'⟩
 cases x with
 |normal=>obtain ⟨ρ,he⟩:=hq;exact h2.out w0 ι0 M0 H0 a' w' hn hM (he.sim hn hM hs')
 |exit id=>exact ⟨_,env',H',rfl,hq,hs'⟩
 |ret=>exact ⟨_,env',H',rfl,hq,hs'⟩
theorem b2n {P:Program} {n0:Nat} {c:Operand} {t e:Code} {env:Env} {H:Hp} {Q:AX->Env->Hp->Prop} {b:Bool} (hb:H4 env c=f7 b) (h:Awp P n0 (cond b t e) env H Q):Awp P n0 (.cond c t e) env H Q:=by
 refine ⟨fun w0 ι0 M0 H0 a w hn hM hs=>?_⟩
 have hs0:=hs
 obtain ⟨ι,M,hd,hsz,he,hH,hMB,hF,hst⟩:=hs
 have hv:=(he.ev.to hb).inv_atm
 refine wp_cond hv ?_
 cases b with
 |true=>exact h.out w0 ι0 M0 H0 a w hn hM hs0
 |false=>exact h.out w0 ι0 M0 H0 a w hn hM hs0
theorem b69 {m n:Nat} {fr:List (Nat × Bool)} {D:Fd} {X:Hp} {p:Nat->Prop} (hp:∀i,i<m+6->p i):VY (J4 m n fr D.V D.G D.O D.F D.A X) p (.own 1 0 m true) (.sl 5 .any (a91 m n D)):=by
 refine b4L (k:=a0G 6 m n D.V) (hp _ (by omega)) rfl (fun h=>h) rfl (a5f m n D) ?_ ?_
 ·intro r hr
  obtain ⟨i,_,rfl⟩:=lbx.1 hr
  rfl
 ·intro i r hi
  have him:i<m:=by have:=(lbe.1 hi).1;rwa [a5f] at this
  rw [a8A him] at hi
  injection hi with hi
  subst hi
  refine ⟨_,a2R him,?_⟩
  show VYL _ _ ((j5 (fz (D.V i))).map C.t++[C.own (i+6) 0 n true]) _
  have hv:VY (J4 m n fr D.V D.G D.O D.F D.A X) p (C.own (i+6) 0 n true) (T.sl 4 .any ((rF n (D.A i)).map j5)):=
   .vc (t8 (k:=flB (rF n (D.A i))) (hp _ (by omega)) (K8 (P5 him)) (fun h=>h) rfl rfl (by simp [a0Y]))
  exact ax6 (ys:=[C.own (i+6) 0 n true]) (us:=[T.sl 4 .any ((rF n (D.A i)).map j5)]) (show _∧True from ⟨hv,trivial⟩)
theorem a5n {m n:Nat} {fr:List (Nat × Bool)} {D:Fd} {X:Hp} {p:Nat->Prop} (hp:∀i,i<m+6->p i):VY (J4 m n fr D.V D.G D.O D.F D.A X) p (.ptr 0 0 0) (.ptr (b88 m n fr D)):=by
 refine a8D (k:=b04 m n fr.length) (hp _ (by omega)) rfl (fun h=>h) rfl ⟨a6G,b69 hp,?_,?_,?_,?_,trivial⟩
 ·exact .vc (t8 (k:=flB (rF n D.G)) (hp _ (by omega)) rfl (fun h=>h) rfl rfl (by simp [a0Y]))
 ·exact .vc (t8 (k:=Y1 m D.O) (hp _ (by omega)) rfl (fun h=>h) rfl rfl (by simp [x5]))
 ·exact .vc (t8 (k:=Y1 n D.F) (hp _ (by omega)) rfl (fun h=>h) rfl rfl (by simp [x5]))
 ·exact .vc (t8 (k:=a1v fr) (hp _ (by omega)) rfl (fun h=>h) rfl rfl (by simp [a0b]))
abbrev bb8 (m n k:Nat):Blk:={ mode:=.live,elem:=364,size:=6,rows:=[[C.t (ti n),.own 2 0 m true,.own 3 0 n true,.own 4 0 m true,.own 5 0 n true,.own 6 0 k true]],box:=true }
abbrev b8Q (m n:Nat) (fr:List (Nat × Bool)) (D:Fd) (b:Blk):Hp:=
 b::bb8 m n fr.length::a0G 7 m n D.V::flB (rF n D.G)::Y1 m D.O::Y1 n D.F::a1v fr::(mF m n D.A).map flB
theorem b7U {N i:Nat} (h:i<N):(a3T [] 1 N).getD i 0=i+1:=by
 unfold a3T
 rw [List.nil_append,lbl,lba,lbh h]
 show 1+i=i+1
 omega
theorem b8Z {σ:List Nat} (ts:List T) (l:List C):a2I σ (ts.map C.t++l)=ts.map C.t++a2I σ l:=by
 rw [M5,M5,lbC,List.map_map]
 congr 1
theorem a7u {s:g6} {g:List (Int × Rat)} {n:Nat} (b:Blk) (h:b7 Tryz.prog 195 [S7 s,k9 g] [] (.c (.ptr 0 0 0)) (a02 (d6 s).length n (d6 s) (f9 s g))):
 b7 Tryz.prog 195 [S7 s,k9 g] [b] (.c (.ptr 1 0 0)) (b8Q (d6 s).length n (d6 s) (f9 s g) b):=by
 have hlen:(a02 (d6 s).length n (d6 s) (f9 s g)).length=(d6 s).length+6:=a2Z
 have hl:∀k ∈ a02 (d6 s).length n (d6 s) (f9 s g),k.mode=.live:=by
  intro k hk
  simp only [lbA] at hk
  rcases hk with rfl|rfl|rfl|rfl|rfl|rfl|hk
  ·rfl
  ·rfl
  ·rfl
  ·rfl
  ·rfl
  ·rfl
  ·obtain ⟨l,_,rfl⟩:=lbx.1 hk;rfl
 have hsub:(a02 (d6 s).length n (d6 s) (f9 s g)).length - ([]:Hp).length=(d6 s).length+6:=by rw [hlen];simp
 have g1:∀i,i<(d6 s).length+6->(a3T [] ([b]:Hp).length ((a02 (d6 s).length n (d6 s) (f9 s g)).length - ([]:Hp).length)).getD i 0=i+1:=fun i hi=>by
  rw [hsub];exact b7U hi
 refine N8 [] h rfl rfl rfl List.nodup_nil (by simp) (fun k hk=>by rw [hl k hk];intro h;cases h) (by simp) rfl ?_ (by rw [hsub];simp [b9];omega) ?_ ?_
 ·show S.c (.ptr 1 0 0)=S.c (.ptr _ 0 0)
  rw [g1 0 (by omega)]
 ·intro i k hk
  have hi:i<(d6 s).length+6:=by rw [← hlen];exact (lbe.1 hk).1
  rw [g1 i hi]
  rcases i with _|_|_|_|_|_|i
  ·injection hk with hk;subst hk
   refine ⟨_,rfl,rfl,rfl,rfl,rfl,?_⟩
   simp only [a9q,List.map_cons,List.map_nil,a2I,a09]
   rw [g1 1 (by omega),g1 2 (by omega),g1 3 (by omega),g1 4 (by omega),g1 5 (by omega)]
  ·injection hk with hk;subst hk
   refine ⟨_,rfl,rfl,rfl,rfl,rfl,?_⟩
   unfold a9q
   show Q5 7 _ _ _=(Q5 6 _ _ _).map _
   unfold Q5
   rw [List.map_map]
   refine lbp fun j hj=>?_
   have hj:=lbB.1 hj
   show _=a2I _ ((j5 (fz ((f9 s g).V j))).map C.t++[C.own (j+6) 0 n true])
   rw [b8Z]
   simp only [a2I,a09]
   rw [g1 (j+6) (by omega)]
   rfl
  ·injection hk with hk;subst hk;exact ⟨_,rfl,x9 rfl⟩
  ·injection hk with hk;subst hk;exact ⟨_,rfl,x9 rfl⟩
  ·injection hk with hk;subst hk;exact ⟨_,rfl,x9 rfl⟩
  ·injection hk with hk;subst hk;exact ⟨_,rfl,x9 rfl⟩
  ·have hk:((mF (d6 s).length n (f9 s g).A).map flB)[i]? =some k:=hk
   refine ⟨k,hk,?_⟩
   obtain ⟨l,_,rfl⟩:=lbx.1 (lbm hk)
   exact x9 rfl
 ·intro j hj _
  have:j=0:=by simpa using hj
  subst this;rfl
def fS (m:Nat):Nat->Nat:=fun i=>if i<m+6 then i+1 else 0
theorem a3a {m n:Nat} {fr:List (Nat × Bool)} {D:Fd} {b:Blk} {env env':Env} {H:Hp} (hb:E5 b.rows) (hH:H=b8Q m n fr D b) (hE:a1F (fR (m+7) (fS m)) H env env'):
 Ent 0 (fR (m+7) (fS m)) env H env' (J4 m n fr D.V D.G D.O D.F D.A [b]):=by
 subst hH
 have fa:∀i,i<m+6->fS m i=i+1:=fun i hi=>by unfold fS;rw [if_pos hi]
 refine aV0 (by simp [b9]) (by omega) (fun i hi=>by omega) (fun i j hi hj h=>by unfold fS at h;(repeat' split at h)<;>omega) ?_ hE
 intro i k' hk
 rcases i with _|_|_|_|_|_|i
 ·injection hk with hk;subst hk
  rw [fa 0 (by omega)]
  exact ⟨_,rfl,rfl,rfl,rfl,.inr ⟨⟨rfl,⟨by rw [x7 (by omega),fa _ (by omega)],rfl,rfl,fun h=>h⟩,⟨by rw [x7 (by omega),fa _ (by omega)],rfl,rfl,fun h=>h⟩,⟨by rw [x7 (by omega),fa _ (by omega)],rfl,rfl,fun h=>h⟩,⟨by rw [x7 (by omega),fa _ (by omega)],rfl,rfl,fun h=>h⟩,⟨by rw [x7 (by omega),fa _ (by omega)],rfl,rfl,fun h=>h⟩,trivial⟩,trivial⟩⟩
 ·injection hk with hk;subst hk
  rw [fa 1 (by omega)]
  refine ⟨_,rfl,a1W (h:=fun i=>i+7) (h':=fun i=>i+6) fun j hj=>?_⟩
  rw [x7 (by omega),fa _ (by omega)]
 ·injection hk with hk;subst hk;rw [fa 2 (by omega)];exact ⟨_,rfl,i6 (c8 _)⟩
 ·injection hk with hk;subst hk;rw [fa 3 (by omega)];exact ⟨_,rfl,i6 (c8 _)⟩
 ·injection hk with hk;subst hk;rw [fa 4 (by omega)];exact ⟨_,rfl,i6 (c8 _)⟩
 ·injection hk with hk;subst hk;rw [fa 5 (by omega)];exact ⟨_,rfl,i6 (c8 _)⟩
 ·have hk:((mF m n D.A).map flB++[b])[i]? =some k':=hk
  by_cases hi:i<m
  ·rw [K8 (P5 hi)] at hk
   injection hk with hk;subst hk
   rw [fa _ (by omega)]
   refine ⟨flB (rF n (D.A i)),?_,i6 (c8 _)⟩
   show ((mF m n D.A).map flB)[i]? =_
   rw [lba,P5 hi];rfl
  ·obtain ⟨t,rfl⟩:∃t,i=m+t:=⟨i - m,by omega⟩
   rw [a1B (b9 _ _ _)] at hk
   rcases t with _|t
   ·injection hk with hk;subst hk
    have:fS m (m+0+6)=0:=by unfold fS;rw [if_neg (by omega)]
    rw [this]
    exact ⟨_,rfl,i6 hb⟩
   ·simp at hk
theorem a1r {m n:Nat} {fr:List (Nat × Bool)} {D E:Fd} {r:S} (X:Hp) (hr:b1e r=true) (hr':r.isT=true) (h:b7 Tryz.prog 196 [.c (.ptr 0 0 0)] (a02 m n fr D) r (a02 m n fr E)):
 b7 Tryz.prog 196 [.c (.ptr 0 0 0)] (J4 m n fr D.V D.G D.O D.F D.A X) r (J4 m n fr E.V E.G E.O E.F E.A X):=by
 have hl:∀{D:Fd},∀k ∈ a02 m n fr D,k.mode=.live∧k.app=false:=by
  intro D k hk
  simp only [lbA] at hk
  rcases hk with rfl|rfl|rfl|rfl|rfl|rfl|hk
  ·exact ⟨rfl,rfl⟩
  ·exact ⟨rfl,rfl⟩
  ·exact ⟨rfl,rfl⟩
  ·exact ⟨rfl,rfl⟩
  ·exact ⟨rfl,rfl⟩
  ·exact ⟨rfl,rfl⟩
  ·obtain ⟨l,_,rfl⟩:=lbx.1 hk
   exact ⟨rfl,rfl⟩
 exact a2p (n:=m+6) X h a2Z a2Z (by simp [okS,okC,Nat.blt_eq]) (fun k hk=>⟨(hl k hk).1,(hl k hk).2,a7s k hk⟩) (fun k hk=>⟨(by rw [(hl k hk).1];intro h;cases h),a7s k hk⟩) hr hr'
theorem aL2 (l:List (Int × Rat)) (z:List Rat) (hl:l.length<=1000000) (h1:∀t ∈ l,rl t.2<=20000) (h2:∀v ∈ z,rl v<=40000) (hS:∀k,rl (j1 (l.take k) z)<=60000) (hz:z.length<=1000000) (hr:d8 (-1) z.length l=true):
 b7 Tryz.prog 214 [k9 l,j7 (z.map fz)] [] (frS (fz (j1 l z))) []:=by
 have m1:(l.map j9).length=l.length:=by simp
 have m2:((z.map fz).map j5).length=z.length:=by simp
 have i0:=D2 0 (by decide) (by decide)
 (refine ac Tryz.func214 ?_;(conv=>whnf);repeat ((first|refine b0x ?_|refine zy ?_);conv=>whnf))
 repeat' (first|refine zx ?_|refine qp i0 ?_|refine zd ?_ ?_<;>intro h<;>try omega|fail)<;>conv=>whnf
 refine f8 c7 (fun k=>([J,j7 (z.map fz),J,J,S.c (C.ptr 0 0 0),S.c (C.ptr 1 0 0),J,J,J,J,J,k9 l,a8 .i64 l.length,a8 .i64 k]++Jn 22,[frB I3,frB (fz (j1 (l.take k) z))])) l.length (fun _=>True) [some 0,some 1] trivial
  ⟨rfl,rfl,⟨⟨rfl,rfl,rfl,.inr ⟨⟨rfl,rfl,rfl,rfl,trivial⟩,trivial⟩⟩,⟨rfl,rfl,rfl,.inl ⟨rfl,m9 _⟩⟩,trivial⟩,⟨rfl,⟨rfl,rfl,rfl⟩,⟨rfl,rfl,rfl⟩,rfl,c6 (by simp),rfl,trivial⟩⟩ ?_
 intro k hk _
 by_cases hlt:k<l.length
 ·obtain ⟨t,ht⟩:∃t,l[k]? =some t:=⟨_,lbf hlt⟩
  obtain ⟨v,c⟩:=t
  have hv:=ar2 hr _ (lbm ht)
  simp only at hv
  have bc:=h1 _ (lbm ht)
  simp only at bc
  obtain ⟨x,hx⟩:∃x,z[v.toNat]? =some x:=⟨_,lbf (by omega)⟩
  have hxd:z.getD v.toNat 0=x:=by rw [lbl,hx];rfl
  have bx:=h2 x (lbm hx)
  have b3:=V8 c x
  have bs:=hS k
  have mu:=a3t c x (by omega) (by omega)
  have ad:=a0y (j1 (l.take k) z) (c*x) (by omega) (by omega)
  have e:j1 (l.take k) z+c*x=j1 (l.take (k+1)) z:=by
   have:l.take (k+1)=l.take k++[(v,c)]:=by rw [lbG,ht];rfl
   rw [this,K3,←hxd]
  rw [e] at ad
  have xz:(z.map fz)[v.toNat]? =some (fz x):=by rw [lba,hx];rfl
  conv=>whnf
  repeat' (first|refine zx ?_|refine qp mu ?_|refine qp ad ?_|refine qp 10 ?_|refine qp 5 ?_|refine d7 ht ?_|refine F3 (by omega) xz ?_|refine bl0 [10] ?_|refine bl0 [5] ?_|refine zd ?_ ?_<;>intro h<;>try omega|fail)<;>conv=>whnf
  all_goals first
   |omega
   |exact ⟨hlt,trivial,[some 0,some 1],rfl,rfl,⟨⟨rfl,rfl,rfl,.inl ⟨rfl,m9 _⟩⟩,⟨rfl,rfl,rfl,.inl ⟨rfl,m9 _⟩⟩,trivial⟩,⟨rfl,⟨rfl,rfl,rfl⟩,⟨rfl,rfl,rfl⟩,rfl,rfl,rfl,trivial⟩⟩
 ·have hke:k=l.length:=by omega
  subst hke
  rw [lbn (lbQ _)]
  conv=>whnf
  repeat' (first|refine zx ?_|refine zd ?_ ?_<;>intro h<;>try omega|fail)<;>conv=>whnf
  all_goals first
   |omega
   |exact b0V rfl
theorem a8k (z:List Rat):(z.map fz).all C9=true:=by
 rw [lbv];intro f hf
 obtain ⟨x,_,rfl⟩:=lbx.1 hf
 exact a2P x
theorem a7q (l:List (Int × Rat)) (z:List Rat) (hl:l.length<=1000000) (h1:∀t ∈ l,rl t.2<=200) (h2:∀v ∈ z,rl v<=40000) (hS:∀k,rl (j1 (l.take k) z)<=60000) (hz:z.length<=1000000) (hr:d8 (-1) z.length l=true):
 b7 Tryz.prog 143 [k9 l,j7 (z.map fz)] [] (.tup [frS (fz (j1 l z)),f7 true]) []:=by
 have m2:((z.map fz).map j5).length=z.length:=by simp
 have rt:=G9 l z.length hl h1
 rw [lbH (by omega),hr] at rt
 have pt:=b0X (z.map fz) (by simpa using hz) (fun f hf=>by
  obtain ⟨x,hx,rfl⟩:=lbx.1 hf
  have:=h2 x hx
  have a:=J3 x
  have b:=K0 x
  exact ⟨by show bl x.num<=_;omega,by show bl x.den<=_;omega⟩)
 rw [a8k] at pt
 have va:=aL2 l z hl (fun t ht=>by have:=h1 t ht;omega) h2 hS hz hr
 have rt2:b7 Tryz.prog 53 [k9 l,a8 .i64 (((z.map fz).map j5).length:Nat)] [] (f7 (true && true)) []:=by rw [m2];exact rt
 (refine ac Tryz.func143 ?_;(conv=>whnf);repeat ((first|refine b0x ?_|refine zy ?_);conv=>whnf))
 repeat' (first|refine zx ?_|refine qp rt2 ?_|refine qp pt ?_|refine qp va ?_|refine zd ?_ ?_<;>intro h<;>try omega|fail)<;>conv=>whnf
 all_goals first
  |(exfalso;simp_all;done)
  |exact j3 ⟨⟨rfl,rfl,rfl,rfl,trivial⟩,rfl,trivial⟩
structure I8 (s:g6) (g:List (Int × Rat)) (n B:Nat):Prop where
 o:b8j s g n
 sb:aj5 s
 gb:∀t ∈ g,rl t.2<=200
 bd:∀D,V7 (d6 s).length n (f9 s g) D->BdD (d6 s).length n B D
 b1:1<=B
 bn:(n+3)*(B+2)<=50000
 r:s.rows.length<=1000
theorem I8.nn {s:g6} {g:List (Int × Rat)} {n B:Nat} (h:I8 s g n B):s.n.toNat=n:=by have:=h.o.en;omega
theorem I8.bb {s:g6} {g:List (Int × Rat)} {n B:Nat} (h:I8 s g n B):B<=17000:=by
 have h1:=h.bn
 have:(n+3)*(B+2)=n*(B+2)+3*(B+2):=by rw [Nat.add_mul]
 omega
theorem I8.m {s:g6} {g:List (Int × Rat)} {n B:Nat} (h:I8 s g n B):(d6 s).length<=2000:=by
 have:=a5C (s:=s) s.rows.length
 have:=h.r
 show (L0 s s.rows.length).length<=_
 omega
abbrev bO (cells:List C):Blk:={ mode:=.live,elem:=38,size:=8,rows:=[cells],box:=true }
abbrev z8:List C:=[.t (ti 0),.t (ti 0),.t (.sl 0 .nil []),.t (ti 0),.t (.sl 0 .nil []),.t (.sl 0 .nil []),.t (.sl 0 .nil []),.t (.sl 0 .nil [])]
theorem a9j:E5 (bO z8).rows:=c8 [[ti 0,ti 0,.sl 0 .nil [],ti 0,.sl 0 .nil [],.sl 0 .nil [],.sl 0 .nil [],.sl 0 .nil []]]
theorem R7 {s:g6} {g:List (Int × Rat)} {n B:Nat} (h:I8 s g n B):
 b7 Tryz.prog 196 [.c (.ptr 0 0 0)] (a02 (d6 s).length n (d6 s) (f9 s g)) (.tup [a8 .i64 (aZ4 (U8 s g)).1,a8 .i64 (aZ4 (U8 s g)).2]) (a02 (d6 s).length n (d6 s) (o9 s g)):=by
 have hn:=h.nn
 subst hn
 have hm:=h.m
 exact b4B _ _ (d6 s) (f9 s g) _ (by omega) h.o.n1 a33 (fun D hD=>by
  have hb:=h.bd D hD
  have hB:=h.bb
  exact ⟨fun i hi=>by have:=hb.v i hi;omega,fun i hi j hj=>by have:=hb.a i hi j hj;omega,fun j hj=>by have:=hb.g j hj;omega⟩)
theorem af3 {s:g6} {g:List (Int × Rat)} {n B:Nat} (h:I8 s g n B):(H5 s g).length=n:=by unfold H5;rw [a5m];exact h.nn
theorem a9b {s:g6} {g:List (Int × Rat)} {n B:Nat} (h:I8 s g n B):b7 Tryz.prog 197 [dT (d6 s).length n (d6 s) (o9 s g)] [] (j7 ((H5 s g).map fz)) []:=by
 have hn:=h.nn
 subst hn
 exact b61 _ _ _ _ R4.p (by have:=h.m;omega) h.o.n1
theorem a6C {s:g6} {g:List (Int × Rat)} {n B:Nat} (h:I8 s g n B):BdD (d6 s).length n B (o9 s g):=by
 have hn:=h.nn
 subst hn
 exact h.bd _ (a4N a33).1
theorem aw0 {s:g6} {g:List (Int × Rat)} {n B:Nat} (h:I8 s g n B) (H:Hp):Q6 Tryz.prog 200 [dT (d6 s).length n (d6 s) (o9 s g),a8 .i64 s.rows.length] H (.c (.own H.length 0 s.rows.length true)) [flB (rF s.rows.length (a3d s (o9 s g)))]:=by
 have hb:=a6C h
 have hp:a0U (d6 s).length n (o9 s g):=by have hn:=h.nn;subst hn;exact R4.p
 refine a1n (b3d s n h.o.en (o9 s g) hp B hb.g h.b1 ?_ (by have:=h.m;omega) h.r h.o.n1) rfl rfl (c8 _)
 have:=h.bn
 have:(n+3)*(B+2)=(n+2)*(B+2)+(B+2):=by rw [show n+3=(n+2)+1 by omega,lbU]
 omega
theorem a1q {i m:Nat} (h:i<m):G3 [some m] i=true:=by
 unfold G3
 have:Nat.beq m i=false:=by
  cases hb:Nat.beq m i with
  |false=>rfl
  |true=>have:=Nat.eq_of_beq_eq_true hb;omega
 rw [this];rfl
theorem a7R {m n:Nat} {fr:List (Nat × Bool)} {D:Fd} {env env':Env} (b:Blk) (hb:E5 b.rows) (hE:a7i [some (m+6)] (J4 m n fr D.V D.G D.O D.F D.A [b]) env env'):b7l 0 [some (m+6)] env (J4 m n fr D.V D.G D.O D.F D.A [b]) env' [b]:=by
 refine ⟨rfl,?_,a5t rfl fun i k' hk=>?_,hE⟩
 ·simp only [V5,a7y];cases b.mode<;>rfl
 ·rcases i with _|i
  ·injection hk with hk;subst hk
   exact ⟨m+6,_,rfl,a1B (t:=0) (b9 _ _ _),i6 hb⟩
  ·simp at hk
set_option maxHeartbeats 4000000 in
theorem a78 (s:g6) (g:List (Int × Rat)) (n B:Nat) (h:I8 s g n B) (hout:U8 s g=.best) (hS:∀k,rl (j1 (g.take k) (H5 s g))<=60000) (hpt:∀v ∈ H5 s g,rl v<=40000):
 b7 Tryz.prog 124 [S7 s,k9 g] [] (.tup [.agg (C.t (ti 0)::frC (fz (j1 g (H5 s g)))++[.t (E9 ((H5 s g).map fz)),.own 0 0 s.rows.length true,.t (.sl 0 .nil [])]),a8 .i64 0]) [flB (rF s.rows.length (a3d s (o9 s g)))]:=by
 have hn:=h.nn
 have hm:=h.m
 have hr1:=h.r
 have hgl:=D3 h.o.tg
 have hn1:=h.o.n1
 have lr:=T3 s h.sb
 rw [h.o.r] at lr
 have rt:=G9 g s.n (by have:=h.o.n1;omega) h.gb
 rw [h.o.en,lbH (by omega),h.o.tg,←h.o.en] at rt
 have op:=a7u (bO z8) (a8b s g n h.o)
 have se:=R7 h
 rw [hout] at se
 have m1:(s.rows.map C8).length=s.rows.length:=by simp
 have pt:=a9b h
 have va:=a7q g (H5 s g) (by omega) h.gb hpt hS (by rw [af3 h];omega) (by rw [af3 h];exact h.o.tg)
 have pr:∀H:Hp,Q6 Tryz.prog 200 [dT (d6 s).length n (d6 s) (o9 s g),a8 .i64 ((s.rows.map C8).length:Nat)] H (.c (.own H.length 0 s.rows.length true)) [flB (rF s.rows.length (a3d s (o9 s g)))]:=by rw [m1];exact aw0 h
 (refine a5w c7 Tryz.func124 rfl (by decide) ?_;refine B6 c7 ?_;(conv=>whnf);repeat ((first|refine b0x ?_|refine zy ?_);conv=>whnf))
 repeat' (first|refine zz ?_|refine b0x ?_|refine zd ?_ ?_<;>intro h<;>try omega|refine zy ?_|fail)<;>conv=>whnf
 (refine B6 c7 ?_;conv=>whnf)
 repeat' (first|refine zx ?_|refine qp lr ?_|refine qp rt ?_|refine zd ?_ ?_<;>intro h<;>try omega|fail)<;>conv=>whnf
 all_goals try (exfalso;simp_all;done)
 refine a1a c7 ([J,k9 g,S.c (C.t (T.ptr (a1H s))),J,S.c (C.ptr ((d6 s).length+6) 0 0),a8 .i64 0,S.c (C.ptr 0 0 0)]++Jn 71) (J4 (d6 s).length n (d6 s) (f9 s g).V (f9 s g).G (f9 s g).O (f9 s g).F (f9 s g).A [bO z8]) ?_ ?_
 ·conv=>whnf
  repeat' (first|refine zx ?_|refine .inr ⟨_,_,op,?_⟩|refine o8 ?_|refine zd ?_ ?_<;>intro h<;>try omega|fail)<;>conv=>whnf
  exact ⟨_,a3a a9j rfl ⟨rfl,i5 rfl,⟨by rw [x7 (by omega)];simp [fS],rfl,rfl⟩,rfl,⟨by rw [x7 (by omega)];simp [fS],rfl,rfl⟩,trivial⟩⟩
 refine a0L c7 ([J,k9 g,S.c (C.t (T.ptr (a1H s))),J,S.c (C.ptr 0 0 0),a8 .i64 0,dT (d6 s).length n (d6 s) (o9 s g),a8 .i64 (-1),a8 .i64 (-1)]++Jn 69) [bO z8] ?_ ?_
 ·have si:=a1r [bO z8] rfl rfl se
  conv=>whnf
  repeat' (first|refine zx ?_|refine qp 4 ?_|refine .inr ⟨_,_,si,?_⟩|refine i8 ?_|refine bl0 [4] ?_|refine zd ?_ ?_<;>intro h<;>try omega|fail)<;>conv=>whnf
  exact ⟨_,a7R (bO z8) a9j ⟨.inl (i5 rfl),.inl (i5 rfl),.inl ⟨rfl,rfl,rfl⟩,.inl rfl,.inr (a5n fun i hi=>a1q hi),.inl rfl,.inl rfl,trivial⟩⟩
 (refine B6 c7 ?_;conv=>whnf)
 repeat' (first|refine zx ?_|refine zd ?_ ?_<;>intro h<;>try omega|fail)<;>conv=>whnf
 all_goals try omega
 (refine B6 c7 ?_;conv=>whnf)
 repeat' (first|refine zx ?_|refine zd ?_ ?_<;>intro h<;>try omega|fail)<;>conv=>whnf
 all_goals try omega
 (refine B6 c7 ?_;conv=>whnf)
 repeat' (first|refine zx ?_|refine qp pt ?_|refine zd ?_ ?_<;>intro h<;>try omega|fail)<;>conv=>whnf
 (refine B6 c7 ?_;conv=>whnf)
 repeat' (first|refine zx ?_|refine qp va ?_|refine qp 4 ?_|refine qp 5 ?_|refine bl0 [4] ?_|refine bl0 [5] ?_|refine zd ?_ ?_<;>intro h<;>try omega|fail)<;>conv=>whnf
 (refine B6 c7 ?_;conv=>whnf)
 repeat' (first|refine zx ?_|refine .inl ⟨_,_,pr _,?_⟩|refine zd ?_ ?_<;>intro h<;>try omega|fail)<;>conv=>whnf
 refine n9 c7 _ ?_
 conv=>whnf
 repeat' (first|refine zx ?_|refine zd ?_ ?_<;>intro h<;>try omega|fail)<;>conv=>whnf
 exact ⟨[some 2],rfl,rfl,⟨i6 (c8 _),trivial⟩,⟨⟨rfl,rfl,rfl,rfl,rfl,rfl,⟨rfl,rfl,rfl,fun h=>h⟩,rfl,trivial⟩,rfl,trivial⟩⟩
theorem a60 {P:Program} {g:FuncId} {args args':List S} {H H':Hp} {r:S} (h:b7 P g args' H r H') (hl:args.length=args'.length)
 (hw:∀(w:World) (ι:Io) (M:Ms) (j:Nat) (s s':S) (v:Value),args[j]? =some s->args'[j]? =some s'->RS w ι M s v->RS w ι M s' v):b7 P g args H r H':=by
 refine ⟨h.1,fun w ι M vals hl2 hv hH hM hf=>h.2 w ι M vals (by omega) (fun j s' hj=>?_) hH hM hf⟩
 have hlt:=(lbe.1 hj).1
 exact hw w ι M j _ s' _ (lbf (by omega)) hj (hv j _ (lbf (by omega)))
theorem aG6 {s:g6} {n:Nat} (b:Blk) (h:b7 Tryz.prog 195 [S7 s,k9 []] [] (.c (.ptr 0 0 0)) (a02 (d6 s).length n (d6 s) (f9 s []))):
 b7 Tryz.prog 195 [S7 s,.c (.t (.sl 0 .nil []))] [b] (.c (.ptr 1 0 0)) (b8Q (d6 s).length n (d6 s) (f9 s []) b):=by
 refine a60 (a7u b h) rfl fun w ι M j x y v hx hy hr=>?_
 rcases j with _|_|j
 ·injection hx with hx;injection hy with hy;subst hx hy;exact hr
 ·injection hx with hx;injection hy with hy;subst hx hy
  cases hr with
  |c hr=>cases hr with
   |t hr=>exact .c (.t (hr.weak rfl))
 ·simp at hx
theorem a3c {s:g6} {g:List (Int × Rat)} {n B r:Nat} (h:I8 s g n B) (hr:r<(d6 s).length) (H:Hp):Q6 Tryz.prog 199 [dT (d6 s).length n (d6 s) (o9 s g),a8 .i64 s.rows.length,a8 .i64 r] H (.c (.own H.length 0 s.rows.length true)) [flB (rF s.rows.length (Z6 s (o9 s g) r))]:=by
 have hb:=a6C h
 have hp:a0U (d6 s).length n (o9 s g):=by have hn:=h.nn;subst hn;exact R4.p
 exact a1n (ax3 s n r h.o.en (o9 s g) hp hr B (hb.a r hr) h.b1 h.bn (by have:=h.m;omega) h.r h.o.n1) rfl rfl (c8 _)
theorem b30 {s:g6} {g:List (Int × Rat)} {n B c:Nat} (h:I8 s g n B) (hc:c<n):b7 Tryz.prog 198 [dT (d6 s).length n (d6 s) (o9 s g),a8 .i64 c] [] (j7 ((ay6 s g c).map fz)) []:=by
 have hb:=a6C h
 have hB:=h.bb
 have hn:=h.nn
 subst hn
 exact b9a _ _ _ _ c hc R4.p (by have:=h.m;omega) h.o.n1 (fun i hi=>by have:=hb.a i hi c hc;omega)
abbrev b9J:List C:=frC I3
set_option maxHeartbeats 4000000 in
theorem a8W (s:g6) (g:List (Int × Rat)) (n B r:Nat) (h:I8 s g n B) (hout:U8 s g=.row r):
 b7 Tryz.prog 124 [S7 s,k9 g] [] (.tup [.agg (C.t (ti 1)::b9J++[.t (.sl 0 .nil []),.own 0 0 s.rows.length true,.t (.sl 0 .nil [])]),a8 .i64 0]) [flB (rF s.rows.length (Z6 s (o9 s g) r))]:=by
 have hn:=h.nn
 have hm:=h.m
 have hr1:=h.r
 have hgl:=D3 h.o.tg
 have hn1:=h.o.n1
 have hrm:r<(d6 s).length:=by have:=(a4P hout).1;exact this
 have lr:=T3 s h.sb
 rw [h.o.r] at lr
 have rt:=G9 g s.n (by have:=h.o.n1;omega) h.gb
 rw [h.o.en,lbH (by omega),h.o.tg,←h.o.en] at rt
 have op:=a7u (bO z8) (a8b s g n h.o)
 have se:=R7 h
 rw [hout] at se
 have m1:(s.rows.map C8).length=s.rows.length:=by simp
 have rf:∀H:Hp,Q6 Tryz.prog 199 [dT (d6 s).length n (d6 s) (o9 s g),a8 .i64 ((s.rows.map C8).length:Nat),a8 .i64 r] H (.c (.own H.length 0 s.rows.length true)) [flB (rF s.rows.length (Z6 s (o9 s g) r))]:=by rw [m1];exact a3c h hrm
 (refine a5w c7 Tryz.func124 rfl (by decide) ?_;refine B6 c7 ?_;(conv=>whnf);repeat ((first|refine b0x ?_|refine zy ?_);conv=>whnf))
 repeat' (first|refine zz ?_|refine b0x ?_|refine zd ?_ ?_<;>intro h<;>try omega|refine zy ?_|fail)<;>conv=>whnf
 (refine B6 c7 ?_;conv=>whnf)
 repeat' (first|refine zx ?_|refine qp lr ?_|refine qp rt ?_|refine zd ?_ ?_<;>intro h<;>try omega|fail)<;>conv=>whnf
 all_goals try (exfalso;simp_all;done)
 refine a1a c7 ([J,k9 g,S.c (C.t (T.ptr (a1H s))),J,S.c (C.ptr ((d6 s).length+6) 0 0),a8 .i64 0,S.c (C.ptr 0 0 0)]++Jn 71) (J4 (d6 s).length n (d6 s) (f9 s g).V (f9 s g).G (f9 s g).O (f9 s g).F (f9 s g).A [bO z8]) ?_ ?_
 ·conv=>whnf
  repeat' (first|refine zx ?_|refine .inr ⟨_,_,op,?_⟩|refine o8 ?_|refine zd ?_ ?_<;>intro h<;>try omega|fail)<;>conv=>whnf
  exact ⟨_,a3a a9j rfl ⟨rfl,i5 rfl,⟨by rw [x7 (by omega)];simp [fS],rfl,rfl⟩,rfl,⟨by rw [x7 (by omega)];simp [fS],rfl,rfl⟩,trivial⟩⟩
 refine a0L c7 ([J,k9 g,S.c (C.t (T.ptr (a1H s))),J,S.c (C.ptr 0 0 0),a8 .i64 0,dT (d6 s).length n (d6 s) (o9 s g),a8 .i64 r,a8 .i64 (-1)]++Jn 69) [bO z8] ?_ ?_
 ·have si:=a1r [bO z8] rfl rfl se
  conv=>whnf
  repeat' (first|refine zx ?_|refine qp 4 ?_|refine .inr ⟨_,_,si,?_⟩|refine i8 ?_|refine bl0 [4] ?_|refine zd ?_ ?_<;>intro h<;>try omega|fail)<;>conv=>whnf
  exact ⟨_,a7R (bO z8) a9j ⟨.inl (i5 rfl),.inl (i5 rfl),.inl ⟨rfl,rfl,rfl⟩,.inl rfl,.inr (a5n fun i hi=>a1q hi),.inl rfl,.inl rfl,trivial⟩⟩
 (refine B6 c7 ?_;conv=>whnf)
 repeat' (first|refine zx ?_|refine zd ?_ ?_<;>intro h<;>try omega|fail)<;>conv=>whnf
 all_goals try omega
 (refine B6 c7 ?_;conv=>whnf)
 repeat' (first|refine zx ?_|refine .inl ⟨_,_,rf _,?_⟩|refine zd ?_ ?_<;>intro h<;>try omega|fail)<;>conv=>whnf
 all_goals first
  |omega
  |exact ⟨[some 1],rfl,rfl,⟨i6 (c8 _),trivial⟩,⟨⟨rfl,rfl,rfl,rfl,rfl,rfl,⟨rfl,rfl,rfl,fun h=>h⟩,rfl,trivial⟩,rfl,trivial⟩⟩
theorem am5 {P:Program} {n0:Nat} {c:Operand} {t e:Code} {env:Env} {H:Hp} {Q:AX->Env->Hp->Prop} (hb:H4 env c=f7 true) (h:Awp P n0 t env H Q):Awp P n0 (.cond c t e) env H Q:=b2n hb h
set_option maxHeartbeats 4000000 in
theorem ax5 (s:g6) (g:List (Int × Rat)) (n B B0 c:Nat) (h:I8 s g n B) (h0:I8 s [] n B0) (hout:U8 s g=.col c) (hout0:U8 s []=.best):
 b7 Tryz.prog 124 [S7 s,k9 g] [] (.tup [.agg (C.t (ti 2)::b9J++[.t (E9 ((H5 s []).map fz)),.t (.sl 0 .nil []),.t (E9 ((ay6 s g c).map fz))]),a8 .i64 0]) []:=by
 have hn:=h.nn
 have hm:=h.m
 have hr1:=h.r
 have hgl:=D3 h.o.tg
 have hn1:=h.o.n1
 have hcn:c<n:=by have:=(a7K hout).1;omega
 have lr:=T3 s h.sb
 rw [h.o.r] at lr
 have rt:=G9 g s.n (by have:=h.o.n1;omega) h.gb
 rw [h.o.en,lbH (by omega),h.o.tg,←h.o.en] at rt
 have op:=a7u (bO z8) (a8b s g n h.o)
 have se:=R7 h
 rw [hout] at se
 have op0:=aG6 (bO z8) (a8b s [] n h0.o)
 have se0:=R7 h0
 rw [hout0] at se0
 have m1:(s.rows.map C8).length=s.rows.length:=by simp
 have pt:=a9b h0
 have ra:=b30 h hcn
 (refine a5w c7 Tryz.func124 rfl (by decide) ?_;refine B6 c7 ?_;(conv=>whnf);repeat ((first|refine b0x ?_|refine zy ?_);conv=>whnf))
 repeat' (first|refine zz ?_|refine b0x ?_|refine zd ?_ ?_<;>intro h<;>try omega|refine zy ?_|fail)<;>conv=>whnf
 (refine B6 c7 ?_;conv=>whnf)
 repeat' (first|refine zx ?_|refine qp lr ?_|refine qp rt ?_|refine zd ?_ ?_<;>intro h<;>try omega|fail)<;>conv=>whnf
 all_goals try (exfalso;simp_all;done)
 refine a1a c7 ([J,k9 g,S.c (C.t (T.ptr (a1H s))),J,S.c (C.ptr ((d6 s).length+6) 0 0),a8 .i64 0,S.c (C.ptr 0 0 0)]++Jn 71) (J4 (d6 s).length n (d6 s) (f9 s g).V (f9 s g).G (f9 s g).O (f9 s g).F (f9 s g).A [bO z8]) ?_ ?_
 ·conv=>whnf
  repeat' (first|refine zx ?_|refine .inr ⟨_,_,op,?_⟩|refine o8 ?_|refine zd ?_ ?_<;>intro h<;>try omega|fail)<;>conv=>whnf
  exact ⟨_,a3a a9j rfl ⟨rfl,i5 rfl,⟨by rw [x7 (by omega)];simp [fS],rfl,rfl⟩,rfl,⟨by rw [x7 (by omega)];simp [fS],rfl,rfl⟩,trivial⟩⟩
 refine a0L c7 ([J,k9 g,S.c (C.t (T.ptr (a1H s))),J,S.c (C.ptr 0 0 0),a8 .i64 0,dT (d6 s).length n (d6 s) (o9 s g),a8 .i64 (-1),a8 .i64 c]++Jn 69) [bO z8] ?_ ?_
 ·have si:=a1r [bO z8] rfl rfl se
  conv=>whnf
  repeat' (first|refine zx ?_|refine qp 4 ?_|refine .inr ⟨_,_,si,?_⟩|refine i8 ?_|refine bl0 [4] ?_|refine zd ?_ ?_<;>intro h<;>try omega|fail)<;>conv=>whnf
  exact ⟨_,a7R (bO z8) a9j ⟨.inl (i5 rfl),.inl (i5 rfl),.inl ⟨rfl,rfl,rfl⟩,.inl rfl,.inr (a5n fun i hi=>a1q hi),.inl rfl,.inl rfl,trivial⟩⟩
 refine a4w ?_
 refine B6 c7 ?_
 conv=>whnf
 repeat' (first|refine zx ?_|refine zd ?_ ?_<;>intro h<;>try omega|fail)<;>conv=>whnf
 all_goals try omega
 refine am5 rfl ?_
 refine a1a c7 ([J,k9 g,S.c (C.t (T.ptr (a1H s))),J,S.c (C.ptr ((d6 s).length+6) 0 0),a8 .i64 0,dT (d6 s).length n (d6 s) (o9 s g),a8 .i64 (-1),a8 .i64 c,S.c (C.ptr 0 0 0)]++Jn 68) (J4 (d6 s).length n (d6 s) (f9 s []).V (f9 s []).G (f9 s []).O (f9 s []).F (f9 s []).A [bO z8]) ?_ ?_
 ·conv=>whnf
  repeat' (first|refine zx ?_|refine .inr ⟨_,_,op0,?_⟩|refine o8 ?_|refine zd ?_ ?_<;>intro h<;>try omega|fail)<;>conv=>whnf
  exact ⟨_,a3a a9j rfl ⟨rfl,i5 rfl,⟨by rw [x7 (by omega)];simp [fS],rfl,rfl⟩,rfl,i5 rfl,rfl,rfl,⟨by rw [x7 (by omega)];simp [fS],rfl,rfl⟩,trivial⟩⟩
 refine a0L c7 ([J,k9 g,S.c (C.t (T.ptr (a1H s))),J,S.c (C.ptr 0 0 0),a8 .i64 0,dT (d6 s).length n (d6 s) (o9 s g),a8 .i64 (-1),a8 .i64 c,dT (d6 s).length n (d6 s) (o9 s []),a8 .i64 (-1),a8 .i64 (-1)]++Jn 66) [bO z8] ?_ ?_
 ·have si:=a1r [bO z8] rfl rfl se0
  conv=>whnf
  repeat' (first|refine zx ?_|refine qp 4 ?_|refine .inr ⟨_,_,si,?_⟩|refine i8 ?_|refine bl0 [4] ?_|refine zd ?_ ?_<;>intro h<;>try omega|fail)<;>conv=>whnf
  exact ⟨_,a7R (bO z8) a9j ⟨.inl (i5 rfl),.inl (i5 rfl),.inl ⟨rfl,rfl,rfl⟩,.inl rfl,.inl (i5 rfl),.inl rfl,.inl rfl,.inr (a5n fun i hi=>a1q hi),.inl rfl,.inl rfl,trivial⟩⟩
 refine n9 c7 _ ?_
 conv=>whnf
 repeat' (first|refine zx ?_|refine qp pt ?_|refine qp ra ?_|refine zd ?_ ?_<;>intro h<;>try omega|fail)<;>conv=>whnf
 all_goals first
  |omega
  |exact ⟨[],rfl,rfl,trivial,⟨⟨rfl,rfl,rfl,rfl,rfl,rfl,rfl,rfl,trivial⟩,rfl,trivial⟩⟩
set_option maxHeartbeats 4000000 in
theorem au1 (s:g6) (g:List (Int × Rat)) (n B B0 c r:Nat) (h:I8 s g n B) (h0:I8 s [] n B0) (hout:U8 s g=.col c) (hout0:U8 s []=.row r):
 b7 Tryz.prog 124 [S7 s,k9 g] [] (.tup [.agg (C.t (ti 1)::b9J++[.t (.sl 0 .nil []),.own 0 0 s.rows.length true,.t (.sl 0 .nil [])]),a8 .i64 0]) [flB (rF s.rows.length (Z6 s (o9 s []) r))]:=by
 have hrm:r<(d6 s).length:=by have:=(a4P hout0).1;exact this
 have hn:=h.nn
 have hm:=h.m
 have hr1:=h.r
 have hgl:=D3 h.o.tg
 have hn1:=h.o.n1
 have hcn:c<n:=by have:=(a7K hout).1;omega
 have lr:=T3 s h.sb
 rw [h.o.r] at lr
 have rt:=G9 g s.n (by have:=h.o.n1;omega) h.gb
 rw [h.o.en,lbH (by omega),h.o.tg,←h.o.en] at rt
 have op:=a7u (bO z8) (a8b s g n h.o)
 have se:=R7 h
 rw [hout] at se
 have op0:=aG6 (bO z8) (a8b s [] n h0.o)
 have se0:=R7 h0
 rw [hout0] at se0
 have m1:(s.rows.map C8).length=s.rows.length:=by simp
 have rf:∀H:Hp,Q6 Tryz.prog 199 [dT (d6 s).length n (d6 s) (o9 s []),a8 .i64 ((s.rows.map C8).length:Nat),a8 .i64 r] H (.c (.own H.length 0 s.rows.length true)) [flB (rF s.rows.length (Z6 s (o9 s []) r))]:=by rw [m1];exact a3c h0 hrm
 (refine a5w c7 Tryz.func124 rfl (by decide) ?_;refine B6 c7 ?_;(conv=>whnf);repeat ((first|refine b0x ?_|refine zy ?_);conv=>whnf))
 repeat' (first|refine zz ?_|refine b0x ?_|refine zd ?_ ?_<;>intro h<;>try omega|refine zy ?_|fail)<;>conv=>whnf
 (refine B6 c7 ?_;conv=>whnf)
 repeat' (first|refine zx ?_|refine qp lr ?_|refine qp rt ?_|refine zd ?_ ?_<;>intro h<;>try omega|fail)<;>conv=>whnf
 all_goals try (exfalso;simp_all;done)
 refine a1a c7 ([J,k9 g,S.c (C.t (T.ptr (a1H s))),J,S.c (C.ptr ((d6 s).length+6) 0 0),a8 .i64 0,S.c (C.ptr 0 0 0)]++Jn 71) (J4 (d6 s).length n (d6 s) (f9 s g).V (f9 s g).G (f9 s g).O (f9 s g).F (f9 s g).A [bO z8]) ?_ ?_
 ·conv=>whnf
  repeat' (first|refine zx ?_|refine .inr ⟨_,_,op,?_⟩|refine o8 ?_|refine zd ?_ ?_<;>intro h<;>try omega|fail)<;>conv=>whnf
  exact ⟨_,a3a a9j rfl ⟨rfl,i5 rfl,⟨by rw [x7 (by omega)];simp [fS],rfl,rfl⟩,rfl,⟨by rw [x7 (by omega)];simp [fS],rfl,rfl⟩,trivial⟩⟩
 refine a0L c7 ([J,k9 g,S.c (C.t (T.ptr (a1H s))),J,S.c (C.ptr 0 0 0),a8 .i64 0,dT (d6 s).length n (d6 s) (o9 s g),a8 .i64 (-1),a8 .i64 c]++Jn 69) [bO z8] ?_ ?_
 ·have si:=a1r [bO z8] rfl rfl se
  conv=>whnf
  repeat' (first|refine zx ?_|refine qp 4 ?_|refine .inr ⟨_,_,si,?_⟩|refine i8 ?_|refine bl0 [4] ?_|refine zd ?_ ?_<;>intro h<;>try omega|fail)<;>conv=>whnf
  exact ⟨_,a7R (bO z8) a9j ⟨.inl (i5 rfl),.inl (i5 rfl),.inl ⟨rfl,rfl,rfl⟩,.inl rfl,.inr (a5n fun i hi=>a1q hi),.inl rfl,.inl rfl,trivial⟩⟩
 refine a4w ?_
 refine B6 c7 ?_
 conv=>whnf
 repeat' (first|refine zx ?_|refine zd ?_ ?_<;>intro h<;>try omega|fail)<;>conv=>whnf
 all_goals try omega
 refine am5 rfl ?_
 refine a1a c7 ([J,k9 g,S.c (C.t (T.ptr (a1H s))),J,S.c (C.ptr ((d6 s).length+6) 0 0),a8 .i64 0,dT (d6 s).length n (d6 s) (o9 s g),a8 .i64 (-1),a8 .i64 c,S.c (C.ptr 0 0 0)]++Jn 68) (J4 (d6 s).length n (d6 s) (f9 s []).V (f9 s []).G (f9 s []).O (f9 s []).F (f9 s []).A [bO z8]) ?_ ?_
 ·conv=>whnf
  repeat' (first|refine zx ?_|refine .inr ⟨_,_,op0,?_⟩|refine o8 ?_|refine zd ?_ ?_<;>intro h<;>try omega|fail)<;>conv=>whnf
  exact ⟨_,a3a a9j rfl ⟨rfl,i5 rfl,⟨by rw [x7 (by omega)];simp [fS],rfl,rfl⟩,rfl,i5 rfl,rfl,rfl,⟨by rw [x7 (by omega)];simp [fS],rfl,rfl⟩,trivial⟩⟩
 refine a0L c7 ([J,k9 g,S.c (C.t (T.ptr (a1H s))),J,S.c (C.ptr 0 0 0),a8 .i64 0,dT (d6 s).length n (d6 s) (o9 s g),a8 .i64 (-1),a8 .i64 c,dT (d6 s).length n (d6 s) (o9 s []),a8 .i64 r,a8 .i64 (-1)]++Jn 66) [bO z8] ?_ ?_
 ·have si:=a1r [bO z8] rfl rfl se0
  conv=>whnf
  repeat' (first|refine zx ?_|refine qp 4 ?_|refine .inr ⟨_,_,si,?_⟩|refine i8 ?_|refine bl0 [4] ?_|refine zd ?_ ?_<;>intro h<;>try omega|fail)<;>conv=>whnf
  exact ⟨_,a7R (bO z8) a9j ⟨.inl (i5 rfl),.inl (i5 rfl),.inl ⟨rfl,rfl,rfl⟩,.inl rfl,.inl (i5 rfl),.inl rfl,.inl rfl,.inr (a5n fun i hi=>a1q hi),.inl rfl,.inl rfl,trivial⟩⟩
 refine n9 c7 _ ?_
 conv=>whnf
 repeat' (first|refine zx ?_|refine qp 1 ?_|refine bl0 [1] ?_|refine zd ?_ ?_<;>intro h<;>try omega|fail)<;>conv=>whnf
 all_goals try omega
 (refine B6 c7 ?_;conv=>whnf)
 repeat' (first|refine zx ?_|refine .inl ⟨_,_,rf _,?_⟩|refine zd ?_ ?_<;>intro h<;>try omega|fail)<;>conv=>whnf
 all_goals first
  |omega
  |exact ⟨[some 1],rfl,rfl,⟨i6 (c8 _),trivial⟩,⟨⟨rfl,rfl,rfl,rfl,rfl,rfl,⟨rfl,rfl,rfl,fun h=>h⟩,rfl,trivial⟩,rfl,trivial⟩⟩
theorem aN2 (e:Ev) (hs:e.Sized) (p:Int):b7 Tryz.prog 11 [evS e,a8 .i64 p] [] (f7 (C4 e p)) []:=by
 have l1:=hs.s1
 have l2:(e.places.map G2.row).length=e.places.length:=by simp
 by_cases hx:idx p e.places.length=true
 ·obtain ⟨hp0,x,hx',kx⟩:=a8H hx
  (refine ac Tryz.func11 ?_;(conv=>whnf);repeat (refine zy ?_;conv=>whnf))
  rw [← l2] at hx
  repeat' (first|refine zx ?_|refine qp (S1 _ hs) ?_|refine qp (a1i _ _) ?_|refine F3 hp0 hx' ?_|refine zd ?_ ?_<;>intro h<;>try omega|fail)<;>conv=>whnf
  all_goals (refine c9 ?_;simp_all [C4];done)
 ·(refine ac Tryz.func11 ?_;(conv=>whnf);repeat (refine zy ?_;conv=>whnf))
  rw [← l2] at hx
  repeat' (first|refine zx ?_|refine qp (S1 _ hs) ?_|refine qp (a1i _ _) ?_|refine zd ?_ ?_<;>intro h<;>try omega|fail)<;>conv=>whnf
  all_goals first|(exfalso;simp_all;done)|(refine c9 ?_;simp_all [C4];done)
abbrev aX0 (n:Int):T:=.ptr [ti n]
abbrev H6 (l:List (Int × Rat)):Blk:={ mode:=.live,elem:=129,size:=5,rows:=toC (l.map j9),box:=false }
abbrev b8y (l:List k7):Blk:={ mode:=.live,elem:=192,size:=6,rows:=toC (l.map C8),box:=false }
abbrev bg7 (n:Int) (id len:Nat):Blk:={ mode:=.live,elem:=48,size:=2,rows:=[[.t (ti n),.own id 0 len true]],box:=true }
theorem b2v {l:List k7} {w:k7} {n:Nat} (h:n=l.length):List.take n (toC (l.map C8))++toC [C8 w]=toC ((l++[w]).map C8):=by
 rw [lbn (by simp [toC,h])]
 simp [toC]
theorem M9 {P:Program} {f:FuncId} {args:List S} {H H1 H':Hp} {r s:S} (h:b7 P f args H r H1) (hf:Fin H.length r H1 s H'):b7 P f args H s H':=by
 refine ⟨h.1,fun w ι M vals hl hr hH hM hF=>?_⟩
 refine Calls.mono (h.2 w ι M vals hl hr hH hM hF) ?_
 rintro e w' ⟨v,rfl,ι',M',h4,hH',hM',hF',hst⟩
 obtain ⟨ρ,f1,f2,f3,f4⟩:=hf
 obtain ⟨g1,g2,g3⟩:=a35.all f1 f2 f3 rfl hM hH' hst
 exact ⟨v,rfl,N5 ρ ι',_,f4.rs hH' h4,g1,fun b hb=>hM' b hb.1,g2,g3⟩
theorem aD0 {P:Program} {g:FuncId} {x:S} {H H':Hp} {r:S} (h:b7 P g [x,k9 []] H r H'):b7 P g [x,.c (.t (.sl 0 .nil []))] H r H':=by
 refine a60 h rfl fun w ι M j a b v hx hy hr=>?_
 rcases j with _|_|j
 ·injection hx with hx;injection hy with hy;subst hx hy;exact hr
 ·injection hx with hx;injection hy with hy;subst hx hy
  cases hr with
  |c hr=>cases hr with
   |t hr=>exact .c (.t (hr.weak rfl))
 ·simp at hx
theorem aE2 (z:List Rat):j1 [] z=0:=rfl
theorem b6x {s:g6} (hr:i9 s=true):U8 s []=.best∨∃r,U8 s []=.row r:=by
 rcases a5q s [] with h|h|⟨c,h⟩
 ·exact .inl h
 ·exact .inr h
 ·have:=(a9y hr rfl h).2
  rw [aE2] at this
  exact absurd this (by decide)
set_option maxHeartbeats 2000000 in
theorem aa1 (s:g6) (n B:Nat) (h:I8 s [] n B) (hout:U8 s []=.best) (hpt:∀v ∈ H5 s [],rl v<=40000):
 b7 Tryz.prog 106 [S7 s] [] (.tup [j7 ((H5 s []).map fz),.c (.t (.sl 0 .nil [])),f7 true]) []:=by
 have le:=aD0 (a78 s [] n B h hout (fun k=>by rw [List.take_nil,aE2];have:=rl0;omega) hpt)
 (refine ac Tryz.func106 ?_;(conv=>whnf);repeat ((first|refine b0x ?_|refine zy ?_);conv=>whnf))
 repeat' (first|refine zx ?_|refine qp 4 ?_|refine qp (4,6) ?_|refine .inr ⟨_,_,le,?_⟩|refine bl0 [4] ?_|refine bl0 [4,6] ?_|refine zd ?_ ?_<;>intro h<;>try omega|fail)<;>conv=>whnf
 all_goals first
  |omega
  |exact j3 ⟨rfl,rfl,rfl,trivial⟩
set_option maxHeartbeats 2000000 in
theorem al5 (s:g6) (n B r:Nat) (h:I8 s [] n B) (hout:U8 s []=.row r):
 b7 Tryz.prog 106 [S7 s] [] (.tup [.c (.t (.sl 0 .nil [])),j7 (rF s.rows.length (Z6 s (o9 s []) r)),f7 false]) []:=by
 have le:=aD0 (a8W s [] n B r h hout)
 (refine ac Tryz.func106 ?_;(conv=>whnf);repeat ((first|refine b0x ?_|refine zy ?_);conv=>whnf))
 repeat' (first|refine zx ?_|refine qp 4 ?_|refine qp (4,6) ?_|refine .inr ⟨_,_,le,?_⟩|refine bl0 [4] ?_|refine bl0 [4,6] ?_|refine zd ?_ ?_<;>intro h<;>try omega|fail)<;>conv=>whnf
 all_goals first
  |omega
  |exact j3 ⟨rfl,(show VC _ (fun id=>G3 [] id=true) (C.own 0 0 s.rows.length true) _ from t8 (k:=flB (rF s.rows.length (Z6 s (o9 s []) r))) rfl rfl (fun h=>h) rfl rfl (by simp [a0Y])),rfl,trivial⟩
theorem a1A {α:Type} {f:α->List T} {l:List α} {x:α} {n:Nat} (h:n=l.length):List.take n (toC (l.map f))++toC [f x]=toC ((l++[x]).map f):=by
 rw [lbn (by simp [toC,h])]
 simp [toC]
def a0T (l:List (Int × Rat)) (f:Rat):List (Int × Rat):=l.map fun t=>(t.1,t.2*f)
theorem a9d (l:List (Int × Rat)) (f:Rat) {k:Nat} {t:Int × Rat} (h:l[k]? =some t):(a0T l f).take (k+1)=(a0T l f).take k++[(t.1,t.2*f)]:=by
 rw [lbG]
 congr 1
 unfold a0T
 rw [lba,h];rfl
theorem a1C (l:List (Int × Rat)) (f:Rat):(a0T l f).length=l.length:=by simp [a0T]
set_option maxHeartbeats 2000000 in
theorem b0Z (l:List (Int × Rat)) (f:Rat) (hf:f≠0) (hr:d8 (-1) 1500 l=true) (hb:∀t ∈ l,rl t.2<=200) (hfb:rl f<=200):
 b7 Tryz.prog 16 [k9 l,frS (fz f)] [] (k9 (a0T l f)) []:=by
 have hl:=D3 hr
 have m1:(l.map j9).length=l.length:=by simp
 have rt:=G9 l 1500 (by omega) hb
 rw [lbH (by omega),hr] at rt
 have sg:=Y8 f (by omega)
 have sz:=a4C (x:=f)
 have hs0:sgR f≠0:=fun h=>hf (sz.1 h)
 (refine ac Tryz.func16 ?_;(conv=>whnf);repeat ((first|refine b0x ?_|refine zy ?_);conv=>whnf))
 repeat' (first|refine zx ?_|refine qp rt ?_|refine qp sg ?_|refine zd ?_ ?_<;>intro h<;>try omega|fail)<;>conv=>whnf
 all_goals try omega
 all_goals try (exfalso;simp_all;done)
 refine f8 c7 (fun k=>([J,J,J,S.c (C.t (T.ptr (j5 (fz f)))),J,S.c (C.own 0 0 k true)]++Jn 12++[k9 l,a8 .i64 l.length,a8 .i64 k]++Jn 19,[H6 ((a0T l f).take k)])) l.length (fun _=>True) [none] trivial
  ⟨rfl,rfl,⟨⟨rfl,rfl⟩,trivial⟩,⟨i5 rfl,⟨rfl,rfl,rfl⟩,i5 rfl,c6 (by omega),c6 rfl,trivial⟩⟩ ?_
 intro k hk _
 by_cases hlt:k<l.length
 ·obtain ⟨t,ht⟩:∃t,l[k]? =some t:=⟨_,lbf hlt⟩
  have bt:=hb t (lbm ht)
  have mu:=a3t t.2 f (by omega) (by omega)
  have lk:((a0T l f).take k).length=k:=by rw [lbs,a1C];omega
  have lA:k<=(H6 ((a0T l f).take k)).rows.length:=by show k<=(toC _).length;simp [toC,a1C];omega
  conv=>whnf
  repeat' (first|refine zx ?_|refine qp mu ?_|refine qp toC ?_|refine qp 6 ?_|refine d7 ht ?_|refine y9 lA (by simp [toC];omega) ?_|refine bl0 [6] ?_|refine zd ?_ ?_<;>intro h<;>try omega|fail)<;>conv=>whnf
  all_goals first
   |omega
   |(refine ⟨hlt,trivial,[some 3],rfl,rfl,⟨b8 (rows:=((a0T l f).take (k+1)).map j9) rfl rfl rfl ?_ rfl,trivial⟩,⟨rfl,⟨rfl,rfl,rfl,fun h=>h⟩,rfl,rfl,c6 (by omega),trivial⟩⟩
     rw [a9d l f ht]
     exact a1A (f:=j9) (x:=(t.1,t.2*f)) lk.symm)
 ·have hke:k=l.length:=by omega
  subst hke
  conv=>whnf
  repeat' (first|refine zx ?_|refine zd ?_ ?_<;>intro h<;>try omega|fail)<;>conv=>whnf
  all_goals first
   |omega
   |exact J7 rfl (fun h=>h) rfl (by rw [lbn (by rw [a1C];exact lbQ _)]) (by simp [a1C])
theorem a4s {n n':Int} (h:n<=n'):∀{last:Int} {l:List (Int × Rat)},d8 last n l=true->d8 last n' l=true
 |_,[],_=>rfl
 |last,a::r,hr=>by
  unfold d8 at hr ⊢
  simp only [lbM,lbI] at hr ⊢
  exact ⟨⟨⟨hr.1.1.1,by omega⟩,hr.1.2⟩,a4s h hr.2⟩
def a1w (l:List (Int × Rat)):List (Int × Rat):=a0T l ((-1:Int):Rat)
structure b9j where
 hh:Int
 state:Int
 w:List Rat
 wo:List Rat
 pr:List Rat
def b9j.row (v:b9j):List T:=[ti v.hh,ti v.state,E9 (v.w.map fz),E9 (v.wo.map fz),E9 (v.pr.map fz)]
theorem b90 {x:Rat}:sgR x > 0↔0<x:=by unfold sgR;split<;>(try split)<;>simp_all<;>grind
theorem b9v {x:Rat}:sgR x<0↔x<0:=by unfold sgR;split<;>(try split)<;>simp_all
abbrev ir (n:Int):Rat:=((n:Int):Rat)
instance:DecidableEq k7:=fun a b=>decidable_of_iff (a.terms=b.terms∧a.kind=b.kind∧a.value=b.value) ⟨fun ⟨h1,h2,h3⟩=>by cases a;cases b;simp_all,fun h=>by subst h;exact ⟨rfl,rfl,rfl⟩⟩
instance:DecidableEq g6:=fun a b=>decidable_of_iff (a.n=b.n∧a.rows=b.rows) ⟨fun ⟨h1,h2⟩=>by cases a;cases b;simp_all,fun h=>by subst h;exact ⟨rfl,rfl⟩⟩
def E4 (l:List (Int × Rat)):Prop:=∀t ∈ l,∃c:Int,t.2=((c:Int):Rat)∧bl c<=1
theorem a7P {i:Int} {c:Int} (h0:-1048575<=c) (h1:c<=1048575):E4 [(i,((c:Int):Rat))]:=by
 intro t ht
 simp at ht
 subst ht
 exact ⟨c,rfl,Q3 h0 h1⟩
theorem a7U {a b:List (Int × Rat)} (ha:E4 a) (hb:E4 b):E4 (a++b):=by
 intro t ht
 rcases lbz.1 ht with h|h
 ·exact ha t h
 ·exact hb t h
theorem aD8 {l:List (Int × Rat)} {z:List Rat} {B:Nat} (h1:∀t ∈ l,rl t.2<=1) (h2:∀v ∈ z,rl v<=B):∀k,rl (j1 (l.take k) z)<=l.length*(B+4)+1:=by
 have key:∀k,k<=l.length->rl (j1 (l.take k) z)<=k*(B+4)+1:=by
  intro k
  induction k with
  |zero=>intro _;rw [List.take_zero];have:=rl0;show rl 0<=_;omega
  |succ k ih=>
   intro hk
   have ih:=ih (by omega)
   rw [List.take_succ_eq_append_getElem (show k<l.length by omega),K3]
   have a1:=h1 l[k] (lbE _)
   have a2:rl (z.getD l[k].1.toNat 0)<=B+1:=by
    by_cases hz:l[k].1.toNat<z.length
    ·have:=h2 _ (lbm (getD_some hz));omega
    ·rw [lbl,lbd (by omega)]
     have:=rl0
     show rl 0<=_
     omega
   have a3:=V8 l[k].2 (z.getD l[k].1.toNat 0)
   have a4:=a0q (j1 (l.take k) z) (l[k].2*z.getD l[k].1.toNat 0)
   rw [lbU]
   omega
 intro k
 by_cases hk:k<=l.length
 ·have h3:=key k hk
  have h4:=lbT (B+4) hk
  omega
 ·have h3:=key l.length (lbQ _)
  rw [lbn (lbQ _)] at h3
  rw [lbn (by omega)];exact h3
theorem a05 {l:List (Int × Rat)} (h:E4 l):∀t ∈ l,rl t.2<=1:=by
 intro t ht
 obtain ⟨c,hc,hb⟩:=h t ht
 rw [hc,a2t]
 have h1:bl 1<=1:=Q3 (by decide) (by decide)
 omega
theorem b1S {s:g6} {g:List (Int × Rat)} {n B:Nat} (h:I8 s g n B):∀v ∈ H5 s g,rl v<=B:=by
 intro v hv
 have hb:=a6C h
 have hn:=h.nn
 have h1:=h.b1
 obtain ⟨j,hj,rfl⟩:=a9B hv
 have hp:a0U (d6 s).length s.n.toNat (o9 s g):=R4.p
 rw [hn] at hj hp ⊢
 rw [← b3Y hp hj]
 have key:∀k,k<=(d6 s).length->rl (ptK n (o9 s g).O (o9 s g).V (fun _=>0) k j)<=B:=by
  intro k
  induction k with
  |zero=>intro _;have:=rl0;show rl 0<=_;omega
  |succ k ih=>
   intro hk
   rw [S9]
   simp only
   split
   ·exact hb.v k (by omega)
   ·exact ih (by omega)
 exact key _ (lbQ _)
theorem a8h {l:List (Int × Rat)} (h:E4 l):E4 (a1w l):=by
 intro t ht
 obtain ⟨u,hu,rfl⟩:=lbx.1 ht
 obtain ⟨c,hc,hb⟩:=h u hu
 refine ⟨-c,?_,by rw [b7x];exact hb⟩
 show u.2*((-1:Int):Rat)=((-c:Int):Rat)
 rw [hc]
 have e:((-c:Int):Rat)=-((c:Int):Rat):=by push_cast;rfl
 have e1:((-1:Int):Rat)=-1:=rfl
 rw [e,e1];grind
theorem a34 {n:Int}:∀{l:List (Int × Rat)} {last:Int},d8 last n l=true->d8 last n (a1w l)=true
 |[],_,_=>rfl
 |a::r,last,h=>by
  unfold d8 at h
  show d8 last n ((a.1,a.2*((-1:Int):Rat))::a1w r)=true
  unfold d8
  simp only [lbM,lbI] at h ⊢
  refine ⟨⟨⟨h.1.1.1,h.1.1.2⟩,fun e=>h.1.2 ?_⟩,a34 h.2⟩
  have e1:((-1:Int):Rat)=-1:=rfl
  rw [e1] at e
  grind
theorem b6B (l:List (Int × Rat)):(a1w l).length=l.length:=a1C _ _
theorem b4i {z:List Rat} (hz:∀v ∈ z,0<=v):∀l:List (Int × Rat),(∀ t ∈ l,0<=t.2)->0<=j1 l z:=by
 intro l hl
 have key:∀k,k<=l.length->0<=j1 (l.take k) z:=by
  intro k
  induction k with
  |zero=>intro _;rw [List.take_zero];exact lb1
  |succ k ih=>
   intro hk
   have ih:=ih (by omega)
   rw [List.take_succ_eq_append_getElem (show k<l.length by omega),K3]
   have h1:=hl l[k] (lbE _)
   have h2:0<=z.getD l[k].1.toNat 0:=by
    by_cases hlt:l[k].1.toNat<z.length
    ·exact hz _ (lbm (getD_some hlt))
    ·rw [lbl,lbd (by omega)];exact lb1
   have h3:=lb0 h1 h2
   grind
 have:=key l.length (lbQ _)
 rwa [List.take_length] at this
theorem not_row {s:g6} {g:List (Int × Rat)} (hr:i9 s=true) (hz:U8 s []=.best):U8 s g=.best∨∃c,U8 s g=.col c:=by
 rcases a5q s g with h|⟨r,h⟩|h
 ·exact .inl h
 ·have h1:=(a2X hr rfl hz).1
  rw [b0M h] at h1;cases h1
 ·exact .inr h
def a5U (v:Rat):Prop:=∃z:Int,((1000:Nat):Rat)*v=((z:Int):Rat)∧z.natAbs<=2305843009213693952
def ba0 (w:k7):Prop:=E4 w.terms∧a5U w.value
theorem a3A:a5U 0:=⟨0,by show _=(0:Rat);grind,by decide⟩
theorem b1V {x:Rat} (h:a5U x):a5U (-x):=by
 obtain ⟨z,h1,h2⟩:=h
 exact ⟨-z,by push_cast;rw [← h1];grind,by rw [Int.natAbs_neg];exact h2⟩
theorem b4X {cs:List E6} {rs:List w7} {scale reading day:Int} {lo hi:Rat} (h:L7 cs rs scale reading day=some (lo,hi)):a5U hi:=by
 unfold L7 at h
 split at h
 ·cases h
 ·rename_i i hi
  obtain ⟨hb,c,hc,_,hcv⟩:=R2 hi
  have e:a2C cs i=c:=by unfold a2C;rw [hc];rfl
  rw [e] at h
  split at h
  ·cases h
  ·split at h
   ·rename_i hr
    injection h with h
    injection h with h1 h2
    rw [← h2]
    unfold a06 a0s at hcv
    rw [a2j] at hr
    simp only [lbM,lbI,a2j] at hcv
    obtain ⟨⟨⟨⟨⟨⟨⟨h1,h2⟩,h3⟩,_⟩,h4⟩,h5⟩,h6⟩,h7⟩:=hcv
    have e1:0<=c.permille*reading:=lbZ (by omega) (by omega)
    have e2:c.permille*reading<=1000*1099511627776:=Int.mul_le_mul (by omega) (by omega) (by omega) (by omega)
    have e3:0<=c.drift*(day - c.since):=lbZ (by omega) (by omega)
    have e4:c.drift*(day - c.since)<=10000000*100000:=Int.mul_le_mul (by omega) (by omega) (by omega) (by omega)
    refine ⟨1000*reading+(c.permille*reading+1000*(c.grams+c.drift*(day - c.since))),?_,by omega⟩
    unfold a4M
    have e5:((1000:Nat):Rat)*Rat.divInt (c.permille*reading) 1000=((c.permille*reading:Int):Rat):=by
     rw [Rat.divInt_eq_div]
     have:((1000:Nat):Rat)=((1000:Int):Rat):=rfl
     rw [this]
     rw [Rat.div_def,←Rat.mul_assoc,Rat.mul_comm (((1000:Int):Rat)),Rat.mul_assoc,Rat.mul_inv_cancel _ (by decide)];grind
    have e6:((1000:Nat):Rat)*((reading:Rat)+(Rat.divInt (c.permille*reading) 1000+((c.grams+c.drift*(day - c.since):Int):Rat)))=((1000:Nat):Rat)*(reading:Rat)+(((1000:Nat):Rat)*Rat.divInt (c.permille*reading) 1000+((1000:Nat):Rat)*((c.grams+c.drift*(day - c.since):Int):Rat)):=by grind
    rw [e6,e5];push_cast;rfl
   ·cases h
theorem ah0 {c:Int} (h:bl c<=1):c.natAbs<=1048575:=by
 have h1:=O5 c.natAbs
 have h2:(dg c.natAbs).length<=1:=h
 have h3:pw (dg c.natAbs).length<=pw 1:=by
  have:(dg c.natAbs).length=0∨(dg c.natAbs).length=1:=by omega
  rcases this with h|h<;>rw [h]
  ·decide
  ·exact Int.le_refl _
 have h4:pw 1=1048576:=by decide
 omega
theorem b8h {b:Bool} {x:Rat} {c:Int} (h:x=((c:Int):Rat)):∃c':Int,V3 b x=((c':Int):Rat)∧c'.natAbs=c.natAbs:=by
 cases b with
 |false=>exact ⟨c,h,rfl⟩
 |true=>exact ⟨-c,by show -x=_;rw [h];push_cast;rfl,Int.natAbs_neg c⟩
theorem b7V {s:g6} {g:List (Int × Rat)}:a1z (d6 s).length s.n.toNat (f9 s g):=⟨fun _ _=>rfl,fun _ _=>rfl⟩
theorem b2f {s:g6} {g:List (Int × Rat)} (hI:∀w ∈ s.rows,ba0 w) (hg:E4 g):b01 (d6 s).length s.n.toNat 1000 2305843009213693952 1048575 1048575 (f9 s g) (fun j=>-(C6 g j)) where
 k:=by decide
 v:=fun i hi=>by
  obtain ⟨f,hf⟩:∃f,(d6 s)[i]? =some f:=⟨_,lbf hi⟩
  obtain ⟨x,hx,_⟩:=a0h.1 (lbm hf)
  have h2:=(hI x (lbm hx)).2
  have hfd:(d6 s).getD i (0,false)=f:=by rw [lbl,hf];rfl
  have eV:(f9 s g).V i=V3 f.2 x.value:=by show a3M s ((d6 s).getD i (0,false))=_;rw [hfd];unfold a3M;rw [hx]
  rw [eV]
  cases f.2 with
  |false=>exact h2
  |true=>exact b1V h2
 a:=fun i j hi hj=>by
  obtain ⟨f,hf⟩:∃f,(d6 s)[i]? =some f:=⟨_,lbf hi⟩
  obtain ⟨x,hx,_⟩:=a0h.1 (lbm hf)
  have h1:=(hI x (lbm hx)).1
  have hfd:(d6 s).getD i (0,false)=f:=by rw [lbl,hf];rfl
  have eA:(f9 s g).A i j=V3 f.2 (C6 x.terms j):=by show a3H s ((d6 s).getD i (0,false)) j=_;rw [hfd];unfold a3H;rw [hx]
  rw [eA]
  obtain ⟨c,hc,hb⟩:=a79 h1 x.terms.length j
  obtain ⟨c',hc',hb'⟩:=b8h (b:=f.2) (x:=C6 x.terms j) hc
  exact ⟨c',hc',by rw [hb'];exact ah0 hb⟩
 g:=fun j hj=>by
  obtain ⟨c,hc,hb⟩:=a79 hg g.length j
  exact ⟨-c,by rw [show C6 g j=((c:Int):Rat) from hc];push_cast;rfl,by rw [Int.natAbs_neg];exact ah0 hb⟩
 a1:=by decide
 ag:=by decide
def a0E (e:Ev):Nat->List Nat
 |0=>[]
 |k+1=>match e.moves[k]? with
  |some m=>if F2 e m.src=0 then a0E e k++[k] else a0E e k
  |none=>a0E e k
def a3u (e:Ev):List Nat:=a0E e e.moves.length
def aT5 (e:Ev) (i:Nat):Prop:=∃m,e.moves[i]? =some m∧F2 e m.src=0
theorem a4F {e:Ev} {i:Nat}:∀{k:Nat},i ∈ a0E e k↔i<k∧aT5 e i
 |0=>by simp [a0E]
 |k+1=>by
  have ih:=a4F (e:=e) (i:=i) (k:=k)
  unfold a0E
  cases hm:e.moves[k]? with
  |none=>
   simp only
   rw [ih]
   constructor
   ·rintro ⟨h1,h2⟩;exact ⟨by omega,h2⟩
   ·rintro ⟨h1,h2⟩
    refine ⟨?_,h2⟩
    obtain ⟨m,h3,_⟩:=h2
    by_cases h:i=k
    ·subst h;rw [hm] at h3;cases h3
    ·omega
  |some m=>
   simp only
   by_cases hk:F2 e m.src=0
   ·rw [if_pos hk,lbz,ih,List.mem_singleton]
    constructor
    ·rintro (⟨h1,h2⟩|h)
     ·exact ⟨by omega,h2⟩
     ·subst h;exact ⟨by omega,m,hm,hk⟩
    ·rintro ⟨h1,h2⟩
     by_cases h:i=k
     ·exact .inr h
     ·exact .inl ⟨by omega,h2⟩
   ·rw [if_neg hk,ih]
    constructor
    ·rintro ⟨h1,h2⟩;exact ⟨by omega,h2⟩
    ·rintro ⟨h1,h2⟩
     refine ⟨?_,h2⟩
     obtain ⟨m',h3,h4⟩:=h2
     by_cases h:i=k
     ·subst h;rw [hm] at h3;injection h3 with h3;subst h3;exact absurd h4 hk
     ·omega
theorem ab9 {e:Ev} {i:Nat}:i ∈ a3u e↔aT5 e i:=by
 unfold a3u
 rw [a4F]
 constructor
 ·exact fun h=>h.2
 ·intro h
  have h':=h
  obtain ⟨m,h1,_⟩:=h'
  exact ⟨(lbe.1 h1).1,h⟩
theorem a8T {e:Ev}:∀k,(a0E e k).length<=k
 |0=>by simp [a0E]
 |k+1=>by
  have ih:=a8T (e:=e) k
  unfold a0E
  split
  ·split
   ·simp;omega
   ·omega
  ·omega
def a3h (l:List Nat) (i:Nat):List k7:=(l.filter fun j=>decide (j≠i)).map fun j=>Z2 j 2 ((0:Int):Rat)
def aQ9 (t:Q0) (kind:Int) (i:Nat):g6:=⟨t.ev.moves.length,(a8Q (a0F t) kind).rows++a3h (a3u t.ev) i⟩
theorem aO6 (l:List Nat) (i:Nat):(a3h l i).length<=l.length:=by unfold a3h;rw [lbr];exact lbt _ _
structure bc7 (t:Q0) (kind:Int) (i:Nat) (z:List Rat):Prop where
 p:bc2 (a0F t) kind z
 o:∀j,aT5 t.ev j->j≠i->z.getD j 0=0
theorem aO0 {t:Q0} {kind:Int} {i:Nat} (hm:t.ev.moves.length<=14) (hc:t.cleans.length<=50):i9 (aQ9 t kind i)=true:=by
 have h:=a87 (t:=a0F t) (kind:=kind) hm (by simp [a0F]) hc
 unfold i9 at h ⊢
 simp only [lbM,lbI] at h ⊢
 obtain ⟨⟨⟨h1,h2⟩,h3⟩,h4⟩:=h
 have hl:=a4D (t:=a0F t) (kind:=kind) t.ev.moves.length
 have hl2:t.ev.moves.length*(2+(a0F t).finds.length+(a0F t).cleans.length)<=14*52:=lbS hm (by show 2+0+t.cleans.length<=52;omega)
 have hl3:=aO6 (a3u t.ev) i
 have hl4:=a8T (e:=t.ev) t.ev.moves.length
 refine ⟨⟨⟨h1,h2⟩,?_⟩,?_⟩
 ·show ((a0A (a0F t) kind t.ev.moves.length++a3h (a3u t.ev) i).length)<=6000
  rw [lbq]
  have:(a3u t.ev).length<=t.ev.moves.length:=hl4
  omega
 ·show ((a8Q (a0F t) kind).rows++a3h (a3u t.ev) i).all (s6 (t.ev.moves.length:Nat))=true
  rw [List.all_append]
  have h5:(a8Q (a0F t) kind).rows.all (s6 (t.ev.moves.length:Nat))=true:=h4
  rw [h5,Bool.true_and,lbv]
  intro w hw
  obtain ⟨j,hj,rfl⟩:=lbx.1 hw
  have hj:=(a4F.1 (lby.1 hj).1).1
  unfold s6 Z2
  simp only [lbM,lbI]
  exact ⟨⟨a6r (by omega) (by omega) a3F,by decide⟩,by decide⟩
theorem alone_holds {t:Q0} {kind:Int} {i:Nat} {z:List Rat} (ht:a3B t=0) (k0:0<=kind) (k1:kind<8) (hm:t.ev.moves.length<=14):i4 (aQ9 t kind i) z=true↔bc7 t kind i z:=by
 have hc:=(a4A ht).2.2.1
 have hb:=sys_holds (t:=a0F t) (kind:=kind) (z:=z) (b2p ht) k0 k1 hm
 have hr1:=aO0 (t:=t) (kind:=kind) (i:=i) hm hc
 have hr2:=a87 (t:=a0F t) (kind:=kind) hm (by simp [a0F]) hc
 have e:i4 (aQ9 t kind i) z=(i4 (a8Q (a0F t) kind) z && (a3h (a3u t.ev) i).all fun w=>G1 w z):=by
  unfold i4
  rw [hr1,hr2]
  show (true && decide ((z.length:Int)=(t.ev.moves.length:Nat)) && _ && ((a8Q (a0F t) kind).rows++a3h (a3u t.ev) i).all _)=_
  rw [List.all_append]
  simp only [Bool.true_and,Bool.and_assoc]
  rfl
 rw [e,lbM,hb]
 constructor
 ·rintro ⟨h1,h2⟩
  refine ⟨h1,fun j hj hji=>?_⟩
  exact a4Y.1 (lbv.1 h2 (Z2 j 2 ((0:Int):Rat)) (lbx.2 ⟨j,lby.2 ⟨ab9.2 hj,lbH hji⟩,rfl⟩))
 ·rintro ⟨h1,h2⟩
  refine ⟨h1,lbv.2 fun w hw=>?_⟩
  obtain ⟨j,hj,rfl⟩:=lbx.1 hw
  have hj:=lby.1 hj
  exact a4Y.2 (h2 j (ab9.1 hj.1) (lbL hj.2))
structure PtB (s:g6) (z:List Rat):Prop where
 v:∀v ∈ z,rl v<=40000
 S:∀w ∈ s.rows,∀k,rl (j1 (w.terms.take k) z)<=50000
 l:z.length<=1000000
theorem b3P (s:g6) (hb:aj5 s) (hr:i9 s=true) (Z:List Rat) (hp:PtB s Z):
 b7 Tryz.prog 144 [S7 s,j7 (Z.map fz)] [] (f7 (i4 s Z)) []:=by
 have m1:(s.rows.map C8).length=s.rows.length:=by simp
 have m2:((Z.map fz).map j5).length=Z.length:=by simp
 have l1:=hb.n0
 have l2:=hp.l
 have lr:=T3 s hb
 rw [hr] at lr
 have pt:=b0X (Z.map fz) (by simpa using hp.l) (fun f hf=>by
  obtain ⟨x,hx,rfl⟩:=lbx.1 hf
  have:=hp.v x hx
  have a:=J3 x
  have b:=K0 x
  exact ⟨by show bl x.num<=_;omega,by show bl x.den<=_;omega⟩)
 rw [a8k] at pt
 by_cases hn:(Z.length:Int)≠s.n
 ·have e2:i4 s Z=false:=by unfold i4;rw [lbJ hn];simp
  rw [e2]
  (refine ac Tryz.func144 ?_;(conv=>whnf);repeat ((first|refine b0x ?_|refine zy ?_);conv=>whnf))
  repeat' (first|refine zx ?_|refine qp lr ?_|refine qp pt ?_|refine zd ?_ ?_<;>intro h<;>try omega|fail)<;>conv=>whnf
  all_goals first
   |omega
   |exact c9 rfl
 have hn:(Z.length:Int)=s.n:=by omega
 have e2:i4 s Z=(Z.all (fun v=>decide (0<=v)) && s.rows.all (fun w=>G1 w Z)):=by unfold i4;rw [hr,lbH hn];simp
 rw [e2]
 (refine ac Tryz.func144 ?_;(conv=>whnf);repeat ((first|refine b0x ?_|refine zy ?_);conv=>whnf))
 repeat' (first|refine zx ?_|refine qp lr ?_|refine qp pt ?_|refine zd ?_ ?_<;>intro h<;>try omega|fail)<;>conv=>whnf
 all_goals try omega
 refine f8 c7 (fun k=>([J,j7 (Z.map fz),S.c (C.t (T.ptr [ti s.n,S6 s.rows]))]++Jn 22++[j7 (Z.map fz),a8 .i64 Z.length,a8 .i64 k]++Jn 38,[])) Z.length (fun k=>(Z.take k).all (fun v=>decide (0<=v))=true) [] rfl
  ⟨rfl,rfl,trivial,⟨rfl,rfl,rfl,c6 (by simp),rfl,trivial⟩⟩ ?_
 intro k hk hI
 by_cases hlt:k<Z.length
 ·obtain ⟨x,hx⟩:∃x,Z[k]? =some x:=⟨_,lbf hlt⟩
  have bx:=hp.v x (lbm hx)
  have sg:=Y8 x (by omega)
  have sn:=a59 (x:=x)
  conv=>whnf
  repeat' (first|refine zx ?_|refine qp sg ?_|refine d7 (I1 Z hx) ?_|refine zd ?_ ?_<;>intro h<;>try omega|fail)<;>conv=>whnf
  all_goals first
   |omega
   |(have h0:¬sgR x<0:=by omega
     exact ⟨hlt,by rw [A6 hx,hI];simpa using lb2.1 (fun h=>h0 (sn.2 h)),[],rfl,rfl,trivial,⟨rfl,rfl,rfl,rfl,rfl,trivial⟩⟩)
   |(have h0:sgR x<0:=by omega
     have hF:Z.all (fun v=>decide (0<=v))=false:=B3 hx (lbJ (Rat.not_le.2 (sn.1 h0)))
     refine c9 ?_;rw [hF];rfl)
 ·have hA:Z.all (fun v=>decide (0<=v))=true:=by rw [← hI,lbn (by omega)]
  rw [hA,Bool.true_and]
  conv=>whnf
  repeat' (first|refine zx ?_|refine zd ?_ ?_<;>intro h<;>try omega|fail)<;>conv=>whnf
  all_goals try omega
  clear hI hlt hk
  refine f8 c7 (fun k=>([J,j7 (Z.map fz)]++Jn 34++[S.c (C.t (S6 s.rows)),a8 .i64 s.rows.length,a8 .i64 k]++Jn 27,[])) s.rows.length (fun k=>(s.rows.take k).all (fun w=>G1 w Z)=true) [] rfl
   ⟨rfl,rfl,trivial,⟨rfl,rfl,c6 (by simp),rfl,trivial⟩⟩ ?_
  intro k hk hI
  by_cases hlt:k<s.rows.length
  ·obtain ⟨w,hw⟩:∃w,s.rows[k]? =some w:=⟨_,lbf hlt⟩
   obtain ⟨b1,b2,b3⟩:=hb.t w (lbm hw)
   have hrw:s6 s.n w=true:=by
    unfold i9 at hr
    simp only [lbM,lbv] at hr
    exact hr.2 w (lbm hw)
   have hrt:d8 (-1) Z.length w.terms=true:=by
    unfold s6 at hrw
    simp only [lbM] at hrw
    rw [hn];exact hrw.1.1
   have hS:=hp.S w (lbm hw)
   have va:=aL2 w.terms Z (by omega) (fun t ht=>by have:=b2 t ht;omega) hp.v (fun k=>by have:=hS k;omega) (by omega) hrt
   have bv:=hS w.terms.length
   rw [lbn (lbQ _)] at bv
   have c:=G6 (j1 w.terms Z) w.value (by omega) (by omega)
   have k1:=a5j (x:=j1 w.terms Z) (y:=w.value)
   have k2:=a1Q (x:=j1 w.terms Z) (y:=w.value)
   have hro:=X9 (w:=w) (z:=Z)
   rw [← k1,←k2] at hro
   generalize a1j (j1 w.terms Z) w.value=U at c hro
   by_cases hok:(U<0->w.kind=1)∧(U > 0->w.kind=0)
   ·have hT:=hro.2 hok
    obtain ⟨q1,q2⟩:=hok
    conv=>whnf
    repeat' (first|refine zx ?_|refine qp va ?_|refine qp c ?_|refine d7 hw ?_|refine zd ?_ ?_<;>intro h<;>try omega|fail)<;>conv=>whnf
    all_goals first
     |omega
     |exact ⟨hlt,by rw [A6 hw,hI,hT];rfl,[],rfl,rfl,trivial,⟨rfl,rfl,rfl,rfl,trivial⟩⟩
   ·have hF:G1 w Z=false:=by rw [← lbP];exact fun h=>hok (hro.1 h)
    rw [B3 hw hF]
    have hor:(U<0∧w.kind≠1)∨(U > 0∧w.kind≠0):=by omega
    clear hro hok
    conv=>whnf
    repeat' (first|refine zx ?_|refine qp va ?_|refine qp c ?_|refine d7 hw ?_|refine zd ?_ ?_<;>intro h<;>try omega|fail)<;>conv=>whnf
    all_goals first
     |omega
     |exact c9 rfl
  ·rw [lbn (by omega)] at hI
   rw [hI]
   conv=>whnf
   repeat' (first|refine zx ?_|refine zd ?_ ?_<;>intro h<;>try omega|fail)<;>conv=>whnf
   all_goals first
    |omega
    |exact c9 rfl
def yN (Y:List Rat) (i:Nat):Rat:=Y.getD i 0
theorem b5g {Y:List Rat} {k:Nat} {x:Rat} (h:Y[k]? =some x):yN Y k=x:=by unfold yN;rw [lbl,h];rfl
def sgB (s:g6) (Y:List Rat) (i:Nat):Bool:=!((decide ((p9 s i).kind=0) && decide (yN Y i<0)) || (decide ((p9 s i).kind=1) && decide (0<yN Y i)))
def a3N (s:g6) (Y:List Rat):Bool:=decide (Y.length=s.rows.length) && (List.range s.rows.length).all (sgB s Y)
theorem b1P {n k:Nat} (h:k<n):(List.range n)[k]? =some k:=by simp [h]
theorem ac8 {f:Nat->Bool} {k:Nat}:(List.range (k+1)).all f=((List.range k).all f && f k):=by rw [List.range_succ,List.all_append];simp
theorem aw1 {f:Nat->Bool} {n k:Nat} (h:k<n) (hf:f k=false):(List.range n).all f=false:=B3 (b1P h) hf
theorem b6R {n:Int} {l:List (Int × Rat)} (hr:d8 (-1) n l=true) {i:Nat} {t:Int × Rat} (ht:l[i]? =some t):∀k,i<k->k<=l.length->L8 l k t.1.toNat=t.2:=by
 intro k hi hk
 induction k with
 |zero=>omega
 |succ k ih=>
  obtain ⟨u,hu⟩:∃u,l[k]? =some u:=⟨_,lbf (by omega)⟩
  rw [K4 hu]
  simp only
  by_cases h:i=k
  ·subst h
   rw [ht] at hu;injection hu with hu;subst hu
   rw [if_pos rfl]
  ·have:=a23 hr i k t u (by omega) ht hu
   have:=p6 hr t (lbm ht)
   rw [if_neg (by omega)]
   exact ih (by omega) (by omega)
theorem b7j {n:Int} {l:List (Int × Rat)} (hr:d8 (-1) n l=true) {i:Nat} {t:Int × Rat} (ht:l[i]? =some t):C6 l t.1.toNat=t.2:=
 b6R hr ht _ (lbe.1 ht).1 (lbQ _)
def a10 (s:g6) (y:Nat->Rat) (k:Nat):List (Int × Rat):=((List.range k).filter fun v=>decide (N0 s y v≠0)).map fun v:Nat=>((v:Int),N0 s y v)
theorem ap6 (s:g6) (y:Nat->Rat) (k:Nat):a10 s y (k+1)=if N0 s y k=0 then a10 s y k else a10 s y k++[((k:Int),N0 s y k)]:=by
 unfold a10
 rw [List.range_succ,lb8,lbC]
 by_cases h:N0 s y k=0
 ·rw [if_pos h];simp [h]
 ·rw [if_neg h];simp [h]
theorem b3c (s:g6) (y:Nat->Rat) (k:Nat):(a10 s y k).length<=k:=by
 unfold a10
 rw [lbr]
 exact lbR (lbt _ _) (by simp)
def a0e (s:g6) (y:Nat->Rat) (l k:Nat):Rat:=i7 (fun i=>y i*C6 (p9 s i).terms l) k
def a3O (s:g6) (y:Nat->Rat) (k:Nat):Rat:=i7 (fun i=>y i*(p9 s i).value) k
structure b7S (s:g6) (Y:List Rat):Prop where
 y:∀v ∈ Y,rl v<=40000
 n:∀l k,rl (a0e s (yN Y) l k)<=50000
 v:∀k,rl (a3O s (yN Y) k)<=50000
 l:Y.length=s.rows.length
 m:s.rows.length<=1000000
theorem am3 {n:Int}:∀{l:List (Int × Rat)} {last:Int},l.Pairwise (fun a b=>a.1<b.1)->(∀ t ∈ l,last<t.1∧t.1<n∧t.2≠0)->d8 last n l=true
 |[],_,_,_=>rfl
 |a::r,last,h1,h2=>by
  unfold d8
  simp only [lbM,lbI]
  obtain ⟨p1,p2⟩:=List.pairwise_cons.1 h1
  have:=h2 a (List.mem_cons_self ..)
  exact ⟨⟨⟨this.1,this.2.1⟩,this.2.2⟩,am3 p2 fun t ht=>⟨p1 t ht,(h2 t (List.mem_cons_of_mem _ ht)).2⟩⟩
theorem a7h {s:g6} {y:Nat->Rat} {k:Nat} {t:Int × Rat}:t ∈ a10 s y k↔∃v:Nat,v<k∧N0 s y v≠0∧t=((v:Int),N0 s y v):=by
 unfold a10
 rw [lbx]
 constructor
 ·rintro ⟨v,hv,rfl⟩
  rw [lby,lbB] at hv
  exact ⟨v,hv.1,by simpa using hv.2,rfl⟩
 ·rintro ⟨v,h1,h2,rfl⟩
  exact ⟨v,by rw [lby,lbB];exact ⟨h1,by simpa using h2⟩,rfl⟩
theorem a65 (s:g6) (y:Nat->Rat) (k:Nat):d8 (-1) (k:Int) (a10 s y k)=true:=by
 refine am3 ?_ fun t ht=>?_
 ·unfold a10
  rw [List.pairwise_map]
  exact ((List.pairwise_lt_range (n:=k)).filter _).imp fun {a b} h=>by show (a:Int)<b;omega
 ·obtain ⟨v,h1,h2,rfl⟩:=a7h.1 ht
  exact ⟨by simp only;omega,by simp only;omega,h2⟩
theorem aM0 {s:g6} {y:Nat->Rat} {k v:Nat} (hv:v<k):C6 (a10 s y k) v=N0 s y v:=by
 by_cases h:N0 s y v=0
 ·rw [h]
  refine a0w _ fun i t _ ht=>?_
  obtain ⟨u,h1,h2,rfl⟩:=a7h.1 (lbm ht)
  intro e
  have e:u=v:=by simpa using e
  exact h2 (e ▸ h)
 ·obtain ⟨i,hi,he⟩:=List.getElem_of_mem (a7h.2 ⟨v,hv,h,rfl⟩)
  have:=b7j (a65 s y k) (i:=i) (t:=((v:Int),N0 s y v)) (by rw [lbf hi,he])
  simpa using this
def a9k (s:g6) (g:List (Int × Rat)) (Y:List Rat):Bool:=a3N s Y && d8 (-1) s.n g && (List.range s.n.toNat).all fun v=>decide (N0 s (yN Y) v<=C6 g v)
def aT3 (s:g6) (g:List (Int × Rat)) (Y:List Rat):S:=if a9k s g Y=true then .tup [frS (fz (a5I s (yN Y))),f7 true] else .tup [frS I3,f7 false]
def aV4 (s:g6) (Y:List Rat):Bool:=a9k s [] Y && decide (0<a5I s (yN Y))
structure b96 (z:List Fr):Prop where
 l:z.length<=1000000
 d:∀f ∈ z,f.p.dl.length<=200000∧f.q.dl.length<=200000
theorem b49 {Z:List Rat} (hl:Z.length<=1000000) (h:∀v ∈ Z,rl v<=200000):b96 (Z.map fz):=⟨by simpa using hl,fun f hf=>by
 obtain ⟨x,hx,rfl⟩:=lbx.1 hf
 have:=h x hx
 have a:=J3 x
 have b:=K0 x
 exact ⟨by show bl x.num<=_;omega,by show bl x.den<=_;omega⟩⟩
theorem b3z (s:g6) (hb:aj5 s) (hr:i9 s=true) (y:List Fr) (hy:b96 y):
 b7 Tryz.prog 235 [S7 s,j7 y] [] (f7 (decide (y.length=s.rows.length) && y.all C9)) []:=by
 have m1:(s.rows.map C8).length=s.rows.length:=by simp
 have m2:(y.map j5).length=y.length:=by simp
 have l1:=hb.n0
 have l2:=hy.l
 have lr:=T3 s hb
 rw [hr] at lr
 by_cases hn:y.length≠s.rows.length
 ·rw [lbJ hn,Bool.false_and]
  (refine ac Tryz.func235 ?_;(conv=>whnf);repeat ((first|refine b0x ?_|refine zy ?_);conv=>whnf))
  repeat' (first|refine zx ?_|refine qp lr ?_|refine zd ?_ ?_<;>intro h<;>try omega|fail)<;>conv=>whnf
  all_goals first
   |omega
   |exact c9 rfl
 have hn:y.length=s.rows.length:=by omega
 rw [lbH hn,Bool.true_and]
 (refine ac Tryz.func235 ?_;(conv=>whnf);repeat ((first|refine b0x ?_|refine zy ?_);conv=>whnf))
 repeat' (first|refine zx ?_|refine qp lr ?_|refine zd ?_ ?_<;>intro h<;>try omega|fail)<;>conv=>whnf
 all_goals try omega
 refine f8 c7 (fun k=>(Jn 18++[j7 y,a8 .i64 y.length,a8 .i64 k]++Jn 7,[])) y.length (fun k=>(y.take k).all C9=true) [] rfl
  ⟨rfl,rfl,trivial,⟨rfl,c6 (by simp),rfl,trivial⟩⟩ ?_
 intro k hk hI
 by_cases hlt:k<y.length
 ·obtain ⟨x,hx⟩:∃x,y[k]? =some x:=⟨_,lbf hlt⟩
  obtain ⟨d1,d2⟩:=hy.d x (lbm hx)
  have rr:=a36 x d1 d2
  cases hq:C9 x with
  |true=>
   rw [hq] at rr
   conv=>whnf
   repeat' (first|refine zx ?_|refine qp rr ?_|refine d7 hx ?_|refine zd ?_ ?_<;>intro h<;>try omega|fail)<;>conv=>whnf
   all_goals first
    |omega
    |exact ⟨hlt,by rw [A6 hx,hI,hq];rfl,[],rfl,rfl,trivial,⟨rfl,rfl,rfl,trivial⟩⟩
  |false=>
   rw [hq] at rr
   rw [B3 hx hq]
   conv=>whnf
   repeat' (first|refine zx ?_|refine qp rr ?_|refine d7 hx ?_|refine zd ?_ ?_<;>intro h<;>try omega|fail)<;>conv=>whnf
   all_goals first
    |omega
    |exact c9 rfl
 ·rw [lbn (by omega)] at hI
  rw [hI]
  conv=>whnf
  repeat' (first|refine zx ?_|refine zd ?_ ?_<;>intro h<;>try omega|fail)<;>conv=>whnf
  all_goals first
   |omega
   |exact c9 rfl
theorem b0o (s:g6) (hb:aj5 s) (hr:i9 s=true) (Y:List Rat) (hl:Y.length<=1000000) (hy:∀v ∈ Y,rl v<=200000):
 b7 Tryz.prog 235 [S7 s,j7 (Y.map fz)] [] (f7 (decide (Y.length=s.rows.length))) []:=by
 have h:=b3z s hb hr (Y.map fz) (b49 hl hy)
 rw [a8k,Bool.and_true,lbr] at h
 exact h
theorem aH5 (s:g6) (hb:aj5 s) (hr:i9 s=true) (y:List Fr) (hy:b96 y) (h:(decide (y.length=s.rows.length) && y.all C9)=false):
 b7 Tryz.prog 172 [S7 s,j7 y] [] (f7 false) []:=by
 have mu:=b3z s hb hr y hy
 rw [h] at mu
 (refine ac Tryz.func172 ?_;(conv=>whnf);repeat ((first|refine b0x ?_|refine zy ?_);conv=>whnf))
 repeat' (first|refine zx ?_|refine qp mu ?_|refine zd ?_ ?_<;>intro h<;>try omega|fail)<;>conv=>whnf
 all_goals exact c9 rfl
theorem b2g (s:g6) (hb:aj5 s) (hr:i9 s=true) (Y:List Rat) (hl:Y.length<=1000000) (hy:∀v ∈ Y,rl v<=50000):
 b7 Tryz.prog 172 [S7 s,j7 (Y.map fz)] [] (f7 (a3N s Y)) []:=by
 have m1:(s.rows.map C8).length=s.rows.length:=by simp
 have m2:((Y.map fz).map j5).length=Y.length:=by simp
 have l1:=hb.n0
 have mu:=b0o s hb hr Y hl (fun v hv=>by have:=hy v hv;omega)
 by_cases hn:Y.length≠s.rows.length
 ·have e2:a3N s Y=false:=by unfold a3N;rw [lbJ hn];simp
  rw [e2]
  exact aH5 s hb hr (Y.map fz) (b49 hl (fun v hv=>by have:=hy v hv;omega)) (by rw [lbJ (by simpa using hn)];rfl)
 have hn:Y.length=s.rows.length:=by omega
 have e2:a3N s Y=(List.range s.rows.length).all (sgB s Y):=by unfold a3N;rw [lbH hn];simp
 rw [e2]
 rw [lbH hn] at mu
 (refine ac Tryz.func172 ?_;(conv=>whnf);repeat ((first|refine b0x ?_|refine zy ?_);conv=>whnf))
 repeat' (first|refine zx ?_|refine qp mu ?_|refine zd ?_ ?_<;>intro h<;>try omega|fail)<;>conv=>whnf
 refine f8 c7 (fun k=>([J,J,S.c (C.t (T.ptr [ti s.n,S6 s.rows])),J,J,J,J,J,J,J,J,J,j7 (Y.map fz),a8 .i64 Y.length,a8 .i64 k]++Jn 21,[])) Y.length (fun k=>(List.range k).all (sgB s Y)=true) [] rfl
  ⟨rfl,rfl,trivial,⟨rfl,rfl,c6 (by simp),rfl,trivial⟩⟩ ?_
 intro k hk hI
 by_cases hlt:k<Y.length
 ·obtain ⟨x,hx⟩:∃x,Y[k]? =some x:=⟨_,lbf hlt⟩
  obtain ⟨w,hw⟩:∃w,s.rows[k]? =some w:=⟨_,lbf (by omega)⟩
  have bx:=hy x (lbm hx)
  have sg:=Y8 x (by omega)
  have es:sgB s Y k=decide ((w.kind=0->¬sgR x<0)∧(w.kind=1->¬sgR x > 0)):=by
   unfold sgB
   rw [U9 hw,b5g hx,Bool.eq_iff_iff,decide_eq_true_iff,b90,b9v]
   simp
   grind
  generalize sgR x=U at sg es
  by_cases hok:(w.kind=0->¬U<0)∧(w.kind=1->¬U > 0)
  ·rw [lbH hok] at es
   obtain ⟨q1,q2⟩:=hok
   conv=>whnf
   repeat' (first|refine zx ?_|refine qp sg ?_|refine d7 (I1 Y hx) ?_|refine d7 hw ?_|refine zd ?_ ?_<;>intro h<;>try omega|fail)<;>conv=>whnf
   all_goals first
    |omega
    |exact ⟨hlt,by rw [ac8,hI,es];rfl,[],rfl,rfl,trivial,⟨rfl,rfl,rfl,rfl,trivial⟩⟩
  ·rw [lbJ hok] at es
   rw [aw1 (n:=s.rows.length) (by omega) es]
   have hor:(w.kind=0∧U<0)∨(w.kind=1∧U > 0):=by omega
   clear hok
   conv=>whnf
   repeat' (first|refine zx ?_|refine qp sg ?_|refine d7 (I1 Y hx) ?_|refine d7 hw ?_|refine zd ?_ ?_<;>intro h<;>try omega|fail)<;>conv=>whnf
   all_goals first
    |omega
    |exact c9 rfl
 ·have hke:k=s.rows.length:=by omega
  subst hke
  rw [hI]
  conv=>whnf
  repeat' (first|refine zx ?_|refine zd ?_ ?_<;>intro h<;>try omega|fail)<;>conv=>whnf
  all_goals first
   |omega
   |exact c9 rfl
theorem b5o (a b c:Rat) (ha:rl a<=60000) (hb:rl b<=50000) (hc:rl c<=200):b7 Tryz.prog 236 [frS (fz a),frS (fz b),frS (fz c)] [] (frS (fz (a+b*c))) []:=by
 have l:=V8 b c
 have mu:=a3t b c (by omega) (by omega)
 have ad:=a0y a (b*c) (by omega) (by omega)
 (refine ac Tryz.func236 ?_;(conv=>whnf);repeat ((first|refine b0x ?_|refine zy ?_);conv=>whnf))
 repeat' (first|refine zx ?_|refine qp mu ?_|refine qp ad ?_|refine qp 5 ?_|refine qp 4 ?_|refine bl0 [5] ?_|refine bl0 [4] ?_|refine zd ?_ ?_<;>intro h<;>try omega|fail)<;>conv=>whnf
 all_goals first
  |exact b0V rfl
def a9o (s:g6) (y:Nat->Rat) (i k:Nat):Nat->Rat:=fun v=>a0e s y v i+y i*L8 (p9 s i).terms k v
theorem b2k (s:g6) (y:Nat->Rat) (i:Nat):a9o s y i 0=fun v=>a0e s y v i:=by
 funext v;show _+_*(0:Rat)=_;grind
theorem b5k (s:g6) (y:Nat->Rat) (i:Nat):a9o s y i (p9 s i).terms.length=fun v=>a0e s y v (i+1):=rfl
theorem b2e {s:g6} {y:Nat->Rat} {i k:Nat} {n:Int} {t:Int × Rat} (hr:d8 (-1) n (p9 s i).terms=true) (ht:(p9 s i).terms[k]? =some t):
 a9o s y i k t.1.toNat=a0e s y t.1.toNat i∧(fun j=>if j=t.1.toNat then a0e s y t.1.toNat i+y i*t.2 else a9o s y i k j)=a9o s y i (k+1):=by
 have z:L8 (p9 s i).terms k t.1.toNat=0:=a0w _ fun a u ha hu=>by
  have h1:=a23 hr a k u t ha hu ht
  have h2:=p6 hr u (lbm hu)
  have h3:=p6 hr t (lbm ht)
  omega
 refine ⟨by unfold a9o;rw [z];grind,?_⟩
 funext j
 unfold a9o
 rw [K4 ht]
 simp only
 by_cases h:j=t.1.toNat
 ·subst h;rw [if_pos rfl,if_pos rfl]
 ·rw [if_neg h,if_neg h]
set_option maxHeartbeats 8000000 in
theorem b9V (s:g6) (hb:aj5 s) (hr:i9 s=true) (Y:List Rat) (hq:b7S s Y) (hn1:s.n<=1000):
 b7 Tryz.prog 173 [S7 s,j7 (Y.map fz)] [] (.tup [k9 (a10 s (yN Y) s.n.toNat),frS (fz (a5I s (yN Y)))]) []:=by
 have m1:(s.rows.map C8).length=s.rows.length:=by simp
 have m2:((Y.map fz).map j5).length=Y.length:=by simp
 have l1:=hb.n0
 have hn:=hq.l
 have hm:=hq.m
 have h0n:=(O7 hr)
 obtain ⟨n,hnn⟩:∃n:Nat,s.n.toNat=n:=⟨_,rfl⟩
 have en:s.n=n:=by omega
 have mu:=b0o s hb hr Y (by omega) (fun v hv=>by have:=hq.y v hv;omega)
 rw [lbH hn] at mu
 have i0:=D2 0 (by decide) (by decide)
 rw [hnn]
 rw [show S7 s=.agg [.t (ti (n:Int)),.t (S6 s.rows)] by rw [← en]] at mu ⊢
 (refine ac Tryz.func173 ?_;(conv=>whnf);repeat ((first|refine b0x ?_|refine zy ?_);conv=>whnf))
 repeat' (first|refine zx ?_|refine qp mu ?_|refine a5S (by omega) (by omega) (by omega) (by decide) ?_|refine zd ?_ ?_<;>intro h<;>try omega|fail)<;>conv=>whnf
 refine f8 c7 (fun k=>([J,j7 (Y.map fz),S.c (C.t (T.ptr [ti (n:Int),S6 s.rows])),J,J,S.c (C.ptr 0 0 0),S.c (C.own 1 0 n true)]++Jn 18++[a8 .i64 n,a8 .i64 k]++Jn 72,[frB I3,flB (pZ k n)])) n (fun _=>True) [some 0,some 1] trivial
  ⟨rfl,rfl,⟨⟨rfl,rfl,rfl,.inr ⟨⟨rfl,rfl,rfl,rfl,trivial⟩,trivial⟩⟩,⟨rfl,rfl,rfl,.inr (a4E ?_ ?_)⟩,trivial⟩,⟨rfl,rfl,⟨rfl,rfl,rfl⟩,⟨rfl,rfl,by omega,fun h=>h⟩,c6 (by omega),c6 rfl,trivial⟩⟩ ?_
 ·simp [J8,toC,ag6]
 ·intro i x y hx hy
  simp only [J8,lbk] at hx
  split at hx
  ·rename_i hi
   injection hx with hx
   subst hx
   have hy:(toC ((pZ 0 n).map j5))[i]? =some y:=hy
   rw [toC,lba,lba,a8t (by omega),if_neg (by omega)] at hy
   injection hy with hy
   subst hy
   exact ⟨rfl,rfl,rfl,rfl,trivial⟩
  ·cases hx
 intro k hk _
 by_cases hlt:k<n
 ·obtain ⟨pf,hpf⟩:∃pf,(pZ k n)[k]? =some pf:=⟨_,a8t hlt⟩
  have gp:(pZ k n)[0+(k:Int).toNat]? =some pf:=by rw [Nat.zero_add,show (k:Int).toNat=k by omega];exact hpf
  have eM:0+(k:Int).toNat=k:=by omega
  conv=>whnf
  repeat' (first|refine zx ?_|refine qp i0 ?_|refine p4 gp ?_|refine zd ?_ ?_<;>intro h<;>try omega|fail)<;>conv=>whnf
  all_goals first
   |omega
   |(refine ⟨hlt,trivial,[some 0,some 1],rfl,rfl,⟨⟨rfl,rfl,rfl,.inr ⟨⟨rfl,rfl,rfl,rfl,trivial⟩,trivial⟩⟩,b8 (rows:=(pZ (k+1) n).map j5) rfl rfl rfl ?_ rfl,trivial⟩,⟨rfl,rfl,⟨rfl,rfl,rfl⟩,⟨rfl,rfl,rfl,fun h=>h⟩,rfl,c6 (by omega),trivial⟩⟩
     have e:=M4 (row:=pZ k n) (y:=fz 0) eM
     rw [b3l hlt] at e
     exact congrArg Blk.rows e)
 have hke:k=n:=by omega
 subst hke
 conv=>whnf
 repeat' (first|refine zx ?_|refine qp i0 ?_|refine zd ?_ ?_<;>intro h<;>try omega|fail)<;>conv=>whnf
 all_goals try omega
 refine f8 c7 (fun i=>([J,J,S.c (C.t (T.ptr [ti (k:Int),S6 s.rows])),J,J,S.c (C.ptr 0 0 0),S.c (C.own 1 0 k true),J,S.c (C.ptr 2 0 0)]++Jn 26++[j7 (Y.map fz),a8 .i64 Y.length,a8 .i64 i]++Jn 61,[frB I3,flB (rF k fun v=>a0e s (yN Y) v i),frB (fz (a3O s (yN Y) i))])) Y.length (fun _=>True) [some 0,some 1,some 2] trivial
  ⟨rfl,rfl,⟨⟨rfl,rfl,rfl,.inr ⟨⟨rfl,rfl,rfl,rfl,trivial⟩,trivial⟩⟩,b8 (rows:=(rF k fun _=>0).map j5) rfl rfl rfl (by rw [← b43]) rfl,⟨rfl,rfl,rfl,.inl ⟨rfl,m9 _⟩⟩,trivial⟩,⟨rfl,⟨rfl,rfl,rfl⟩,⟨rfl,rfl,rfl,fun h=>h⟩,⟨rfl,rfl,rfl⟩,rfl,c6 (by simp),rfl,trivial⟩⟩ ?_
 intro i hi _
 by_cases hil:i<Y.length
 ·obtain ⟨x,hx⟩:∃x,Y[i]? =some x:=⟨_,lbf hil⟩
  obtain ⟨w,hw⟩:∃w,s.rows[i]? =some w:=⟨_,lbf (by omega)⟩
  obtain ⟨b1,b2,b3⟩:=hb.t w (lbm hw)
  have hrt:=(a00 hr hw).1
  have bx:=hq.y x (lbm hx)
  have eyx:yN Y i=x:=b5g hx
  have erw:p9 s i=w:=U9 hw
  have mv:=hq.v i
  have sg:=Y8 x (by omega)
  have sz:=a4C (x:=x)
  have pv:=b5o (a3O s (yN Y) i) x w.value (by omega) (by omega) b3
  have ev:a3O s (yN Y) i+x*w.value=a3O s (yN Y) (i+1):=by
   show _=a3O s (yN Y) i+yN Y i*(p9 s i).value
   rw [erw,eyx]
  rw [ev] at pv
  by_cases hx0:x=0
  ·have hs:=sz.2 hx0
   have e1:(fun v=>a0e s (yN Y) v (i+1))=fun v=>a0e s (yN Y) v i:=by
    funext v
    show a0e s (yN Y) v i+yN Y i*_=_
    rw [eyx,hx0];grind
   have e2:a3O s (yN Y) (i+1)=a3O s (yN Y) i:=by
    show a3O s (yN Y) i+yN Y i*_=_
    rw [eyx,hx0];grind
   rw [e1,e2]
   conv=>whnf
   repeat' (first|refine zx ?_|refine qp sg ?_|refine d7 (I1 Y hx) ?_|refine zd ?_ ?_<;>intro h<;>try omega|fail)<;>conv=>whnf
   all_goals first
    |omega
    |exact ⟨hil,trivial,[some 0,some 1,some 2],rfl,rfl,⟨⟨rfl,rfl,rfl,.inr ⟨⟨rfl,rfl,rfl,rfl,trivial⟩,trivial⟩⟩,i6 (c8 _),⟨rfl,rfl,rfl,.inl ⟨rfl,m9 _⟩⟩,trivial⟩,⟨rfl,⟨rfl,rfl,rfl⟩,⟨rfl,rfl,rfl,fun h=>h⟩,⟨rfl,rfl,rfl⟩,rfl,rfl,c6 (by omega),trivial⟩⟩
  ·have hs:sgR x≠0:=fun h=>hx0 (sz.1 h)
   have m4:(w.terms.map j9).length=w.terms.length:=by simp
   conv=>whnf
   repeat' (first|refine zx ?_|refine qp sg ?_|refine d7 (I1 Y hx) ?_|refine d7 hw ?_|refine zd ?_ ?_<;>intro h<;>try omega|fail)<;>conv=>whnf
   all_goals try omega
   refine f8 c7 (fun j=>([J,J,S.c (C.t (T.ptr [ti (k:Int),S6 s.rows])),J,J,S.c (C.ptr 0 0 0),S.c (C.own 1 0 k true),J,S.c (C.ptr 2 0 0),a8 .i64 i,S.c (C.ptr 3 0 0)]++Jn 24++[j7 (Y.map fz),a8 .i64 Y.length,a8 .i64 i]++Jn 12++[k9 w.terms,a8 .i64 w.terms.length,a8 .i64 j]++Jn 46,[frB I3,flB (rF k (a9o s (yN Y) i j)),frB (fz (a3O s (yN Y) i)),frB (fz x)])) w.terms.length (fun _=>True) [some 0,some 1,some 2,some 3] trivial
    ⟨rfl,rfl,⟨⟨rfl,rfl,rfl,.inr ⟨⟨rfl,rfl,rfl,rfl,trivial⟩,trivial⟩⟩,b8 (rows:=(rF k fun v=>a0e s (yN Y) v i).map j5) rfl rfl rfl rfl (by rw [b2k]),⟨rfl,rfl,rfl,.inl ⟨rfl,m9 _⟩⟩,⟨rfl,rfl,rfl,.inl ⟨rfl,m9 _⟩⟩,trivial⟩,⟨rfl,⟨rfl,rfl,rfl⟩,⟨rfl,rfl,rfl,fun h=>h⟩,⟨rfl,rfl,rfl⟩,rfl,⟨rfl,rfl,rfl⟩,rfl,rfl,rfl,rfl,c6 (by simp),rfl,trivial⟩⟩ ?_
   intro j hj _
   by_cases hjl:j<w.terms.length
   ·obtain ⟨t,ht⟩:∃t,w.terms[j]? =some t:=⟨_,lbf hjl⟩
    have tm:=p6 hrt t (lbm ht)
    have tb:=b2 t (lbm ht)
    obtain ⟨p1,p2⟩:=b2e (s:=s) (y:=yN Y) (i:=i) (k:=j) (n:=(s.n.toNat:Nat)) (t:=t) (by rw [erw];exact hrt) (by rw [erw];exact ht)
    have bm:=hq.n t.1.toNat i
    have ad:=b5o (a0e s (yN Y) t.1.toNat i) x t.2 (by omega) (by omega) tb
    have hv:t.1.toNat<k:=by omega
    have g1:(rF k (a9o s (yN Y) i j))[0+t.1.toNat]? =some (fz (a0e s (yN Y) t.1.toNat i)):=by rw [Nat.zero_add,J2 hv,p1]
    have eM:0+t.1.toNat=t.1.toNat:=by omega
    rw [eyx] at p2
    conv=>whnf
    repeat' (first|refine zx ?_|refine qp ad ?_|refine d7 ht ?_|refine p4 g1 ?_|refine zd ?_ ?_<;>intro h<;>try omega|fail)<;>conv=>whnf
    all_goals first
     |omega
     |(refine ⟨hjl,trivial,[some 0,some 1,some 2,some 3],rfl,rfl,⟨⟨rfl,rfl,rfl,.inr ⟨⟨rfl,rfl,rfl,rfl,trivial⟩,trivial⟩⟩,b8 (rows:=(rF k (a9o s (yN Y) i (j+1))).map j5) rfl rfl rfl ?_ rfl,⟨rfl,rfl,rfl,.inl ⟨rfl,m9 _⟩⟩,⟨rfl,rfl,rfl,.inl ⟨rfl,m9 _⟩⟩,trivial⟩,⟨rfl,⟨rfl,rfl,rfl⟩,⟨rfl,rfl,rfl,fun h=>h⟩,⟨rfl,rfl,rfl⟩,rfl,⟨rfl,rfl,rfl⟩,rfl,rfl,rfl,rfl,rfl,c6 (by omega),trivial⟩⟩
       have e:=M4 (row:=rF k (a9o s (yN Y) i j)) (y:=fz (a0e s (yN Y) t.1.toNat i+x*t.2)) eM
       rw [Z0 hv,p2] at e
       exact congrArg Blk.rows e)
   ·have hje:j=w.terms.length:=by omega
    subst hje
    have e3:a9o s (yN Y) i w.terms.length=fun v=>a0e s (yN Y) v (i+1):=by rw [← erw];exact b5k s (yN Y) i
    rw [e3]
    conv=>whnf
    repeat' (first|refine zx ?_|refine qp pv ?_|refine d7 hw ?_|refine zd ?_ ?_<;>intro h<;>try omega|fail)<;>conv=>whnf
    all_goals first
     |omega
     |exact ⟨hil,trivial,[some 0,some 1,some 2],rfl,rfl,⟨⟨rfl,rfl,rfl,.inr ⟨⟨rfl,rfl,rfl,rfl,trivial⟩,trivial⟩⟩,i6 (c8 _),⟨rfl,rfl,rfl,.inl ⟨rfl,m9 _⟩⟩,trivial⟩,⟨rfl,⟨rfl,rfl,rfl⟩,⟨rfl,rfl,rfl,fun h=>h⟩,⟨rfl,rfl,rfl⟩,rfl,rfl,c6 (by omega),trivial⟩⟩
 have hie:i=s.rows.length:=by omega
 subst hie
 have e4:(fun v=>a0e s (yN Y) v s.rows.length)=N0 s (yN Y):=rfl
 have e5:a3O s (yN Y) s.rows.length=a5I s (yN Y):=rfl
 rw [e4,e5]
 conv=>whnf
 repeat' (first|refine zx ?_|refine zd ?_ ?_<;>intro h<;>try omega|fail)<;>conv=>whnf
 all_goals try omega
 refine f8 c7 (fun v=>([J,J,J,J,J,S.c (C.ptr 0 0 0),J,J,S.c (C.ptr 2 0 0),J,J,J,J,S.c (C.own 3 0 (a10 s (yN Y) v).length true)]++Jn 66++[S.c (C.own 1 0 k true),a8 .i64 k,a8 .i64 v]++Jn 16,[frB I3,flB (rF k (N0 s (yN Y))),frB (fz (a5I s (yN Y))),H6 (a10 s (yN Y) v)])) k (fun _=>True) [some 0,some 1,some 2,none] trivial
  ⟨rfl,rfl,⟨⟨rfl,rfl,rfl,.inr ⟨⟨rfl,rfl,rfl,rfl,trivial⟩,trivial⟩⟩,i6 (c8 _),⟨rfl,rfl,rfl,.inl ⟨rfl,m9 _⟩⟩,⟨rfl,rfl⟩,trivial⟩,⟨⟨rfl,rfl,rfl⟩,⟨rfl,rfl,rfl⟩,⟨rfl,rfl,rfl⟩,⟨rfl,rfl,rfl,fun h=>h⟩,rfl,c6 rfl,trivial⟩⟩ ?_
 intro v hv _
 have lv:=b3c s (yN Y) v
 by_cases hlt:v<k
 ·have bm:=hq.n v s.rows.length
  have em:a0e s (yN Y) v s.rows.length=N0 s (yN Y) v:=rfl
  rw [em] at bm
  have sg:=Y8 (N0 s (yN Y) v) (by omega)
  have sz:=a4C (x:=N0 s (yN Y) v)
  have g1:(rF k (N0 s (yN Y)))[0+(v:Int).toNat]? =some (fz (N0 s (yN Y) v)):=by rw [Nat.zero_add,show (v:Int).toNat=v by omega,J2 hlt]
  have lA:(a10 s (yN Y) v).length<=(H6 (a10 s (yN Y) v)).rows.length:=by show _<=(toC _).length;simp [toC]
  by_cases hz:N0 s (yN Y) v=0
  ·have hs:=sz.2 hz
   have e2:a10 s (yN Y) (v+1)=a10 s (yN Y) v:=by rw [ap6,if_pos hz]
   rw [e2]
   conv=>whnf
   repeat' (first|refine zx ?_|refine qp sg ?_|refine p4 g1 ?_|refine zd ?_ ?_<;>intro h<;>try omega|fail)<;>conv=>whnf
   all_goals first
    |omega
    |exact ⟨hlt,trivial,[some 0,some 1,some 2,some 3],rfl,rfl,⟨⟨rfl,rfl,rfl,.inr ⟨⟨rfl,rfl,rfl,rfl,trivial⟩,trivial⟩⟩,i6 (c8 _),⟨rfl,rfl,rfl,.inl ⟨rfl,m9 _⟩⟩,i6 (c8 _),trivial⟩,⟨⟨rfl,rfl,rfl⟩,⟨rfl,rfl,rfl⟩,⟨rfl,rfl,rfl,fun h=>h⟩,⟨rfl,rfl,rfl,fun h=>h⟩,rfl,c6 (by omega),trivial⟩⟩
  ·have hs:sgR (N0 s (yN Y) v)≠0:=fun h=>hz (sz.1 h)
   have e2:a10 s (yN Y) (v+1)=a10 s (yN Y) v++[((v:Int),N0 s (yN Y) v)]:=by rw [ap6,if_neg hz]
   rw [e2]
   conv=>whnf
   repeat' (first|refine zx ?_|refine qp sg ?_|refine qp toC ?_|refine p4 g1 ?_|refine y9 lA (by simp [toC];omega) ?_|refine zd ?_ ?_<;>intro h<;>try omega|fail)<;>conv=>whnf
   all_goals first
    |omega
    |(refine ⟨hlt,trivial,[some 0,some 1,some 2,some 5],rfl,rfl,⟨⟨rfl,rfl,rfl,.inr ⟨⟨rfl,rfl,rfl,rfl,trivial⟩,trivial⟩⟩,i6 (c8 _),⟨rfl,rfl,rfl,.inl ⟨rfl,m9 _⟩⟩,b8 (rows:=(a10 s (yN Y) v++[((v:Int),N0 s (yN Y) v)]).map j9) rfl rfl rfl ?_ rfl,trivial⟩,⟨⟨rfl,rfl,rfl⟩,⟨rfl,rfl,rfl⟩,⟨rfl,rfl,?_,fun h=>h⟩,⟨rfl,rfl,rfl,fun h=>h⟩,rfl,c6 (by omega),trivial⟩⟩
      ·exact a1A (f:=j9) (x:=((v:Int),N0 s (yN Y) v)) rfl
      ·simp [toC])
 ·have hke:v=k:=by omega
  subst hke
  conv=>whnf
  repeat' (first|refine zx ?_|refine zd ?_ ?_<;>intro h<;>try omega|fail)<;>conv=>whnf
  all_goals first
   |omega
   |exact j3 ⟨(show VC _ (fun id=>G3 [] id=true) (C.own 3 0 _ true) _ from t8 (k:=H6 (a10 s (yN Y) v)) rfl rfl (fun h=>h) rfl rfl (by simp)),⟨rfl,rfl,rfl,rfl,trivial⟩,trivial⟩
end Go.Proofs.YtaejgdbahjjncaaGreat
