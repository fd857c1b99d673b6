/- Part 7. -/
import Derived.Test.YtaejgdbahjjncaaGreatUj6
namespace Go.Proofs.YtaejgdbahjjncaaGreat
set_option linter.unusedVariables false
set_option linter.unusedSimpArgs false
set_option maxRecDepth 100000
open Go.RowKit
open St1 St2 St3 St4 St5 St6 St7 St8 StA StB
theorem a5j {x y:Rat}:a1j x y<0↔x<y:=by unfold a1j;split<;>(try split)<;>simp_all
theorem aL3 (x y:Rat):-1<=a1j x y∧a1j x y<=1:=by unfold a1j;split<;>(try split)<;>omega
theorem b8D (x y:Rat) (lx:rl x<=60000) (ly:rl y<=60000):b7 Tryz.prog 218 [frS (fz x),frS (fz y)] [] (.tup [frS (fz (aC3 x y)),a8 .i64 0]) []:=by
 have e:b7 Tryz.prog 269 [frS (fz x),frS (fz y),a8 .i64 1] [] (.tup [frS (fz (aC3 x y)),a8 .i64 0]) []:=by
  have r1:=J5 x (by omega)
  have r2:=J5 y (by omega)
  have x1:=J3 x
  have x2:=K0 x
  have y1:=J3 y
  have y2:=K0 y
  have c:=G6 x y lx ly
  have hr:=aL3 x y
  have s1:=ad4 x.num (by omega)
  have s2:=ad4 x.den (by omega)
  have s3:=ad4 y.num (by omega)
  have s4:=ad4 y.den (by omega)
  (refine ac Tryz.func269 ?_;(conv=>whnf);repeat (refine zy ?_;conv=>whnf))
  repeat' (first|refine zx ?_|refine qp r1 ?_|refine qp r2 ?_|refine qp c ?_|refine qp s1 ?_|refine qp s2 ?_|refine qp s3 ?_|refine qp s4 ?_|refine zd ?_ ?_<;>intro h<;>try omega|fail)<;>conv=>whnf
  ·have h:a1j x y<0:=by omega
   refine a2y (f:=fz y) ?_
   unfold aC3;rw [if_pos (a5j.1 h)]
  ·have h:¬a1j x y<0:=by omega
   refine a2y (f:=fz x) ?_
   unfold aC3;rw [if_neg (fun h'=>h (a5j.2 h'))]
 (refine ac Tryz.func218 ?_;(conv=>whnf);repeat (refine zy ?_;conv=>whnf))
 repeat' (first|refine zx ?_|refine qp e ?_|refine zd ?_ ?_<;>intro h<;>try omega|fail)<;>conv=>whnf
 all_goals exact a2y rfl
theorem a4i (n m:Int):b7 Tryz.prog 268 [a8 .i64 n,a8 .i64 m] [] (f7 (btw n 0 m)) []:=by
 (refine ac Tryz.func268 ?_;(conv=>whnf);repeat (refine zy ?_;conv=>whnf))
 repeat' (first|refine zx ?_|refine zd ?_ ?_<;>intro h<;>try omega|fail)<;>conv=>whnf
 all_goals (refine c9 ?_;unfold btw;simp;omega)
abbrev b4c (c:E6):S:=.agg (c.row.map .t)
theorem b2d (n:Int):btw n 0 29=idx n 30:=b6Z n 30
theorem aI2 (c:E6):b7 Tryz.prog 303 [b4c c] [] (f7 (a0s c)) []:=by
 have w1:=a4i c.scale 29
 have w2:=a4i c.grams 1099511627776
 have w3:=a4i c.permille 1000
 have w4:=a4i c.drift 10000000
 rw [b2d] at w1
 unfold a0s
 cases h1:idx c.scale 30<;>cases h2:btw c.grams 0 1099511627776<;>cases h3:btw c.permille 0 1000<;>cases h4:btw c.drift 0 10000000<;>rw [h1] at w1<;>rw [h2] at w2<;>rw [h3] at w3<;>rw [h4] at w4<;>
 ·(refine ac Tryz.func303 ?_;(conv=>whnf);repeat (refine zy ?_;conv=>whnf))
  repeat' (first|refine zx ?_|refine qp w1 ?_|refine qp w2 ?_|refine qp w3 ?_|refine qp w4 ?_|refine zd ?_ ?_<;>intro h<;>try omega|fail)<;>conv=>whnf
  all_goals (refine c9 ?_;simp;try omega)
theorem aH9 (c:E6) (day:Int):b7 Tryz.prog 265 [b4c c,a8 .i64 day] [] (f7 (a06 c day)) []:=by
 have w1:=aI2 c
 unfold a06
 cases h1:a0s c<;>rw [h1] at w1<;>
 ·(refine ac Tryz.func265 ?_;(conv=>whnf);repeat (refine zy ?_;conv=>whnf))
  repeat' (first|refine zx ?_|refine qp w1 ?_|refine zd ?_ ?_<;>intro h<;>try omega|fail)<;>conv=>whnf
  all_goals (refine c9 ?_;simp [btw];try omega)
theorem b65 {cs:List E6} {k:Nat} {c:E6} (h:cs[k]? =some c):ay2 cs k=c.since:=by unfold ay2;rw [h];rfl
abbrev b7D (n:Int):T:=.ptr [ti n]
theorem b58 {a b:Bool} {ρ:List (Option Nat)} {H:Hp} (h:a=b):a5G ρ H (f7 a) (f7 b):=by subst h;exact rfl
def ac5 (o:Option Nat):Nat:=o.getD 0
theorem b8E (cs:List E6) (scale day:Int) (hl:cs.length<=1000000):
 b7 Tryz.prog 215 [.c (.t (a0W cs)),a8 .i64 scale,a8 .i64 day] [] (.tup [a8 .i64 (ac5 (Q9 cs scale day cs.length)),f7 (Q9 cs scale day cs.length).isSome]) []:=by
 have l1:(cs.map E6.row).length=cs.length:=by simp
 (refine ac Tryz.func215 ?_;(conv=>whnf);repeat (refine zy ?_;conv=>whnf))
 repeat' (first|refine zx ?_|refine zd ?_ ?_<;>intro h<;>try omega|fail)<;>conv=>whnf
 refine f8 c7 (fun k=>([S.c (C.t (a0W cs)),a8 .i64 scale,a8 .i64 day,J,J,J,J,J,a8 .i64 (ac5 (Q9 cs scale day k)),f7 (Q9 cs scale day k).isSome,J,J,S.c (C.t (a0W cs)),a8 .i64 cs.length,a8 .i64 k]++Jn 31,[])) cs.length (fun _=>True) [] trivial
  ⟨rfl,rfl,trivial,⟨i5 rfl,rfl,rfl,rfl,rfl,i5 rfl,c6 (by simp),rfl,trivial⟩⟩ ?_
 intro k hk _
 by_cases hlt:k<cs.length
 ·obtain ⟨c,hc⟩:∃c,cs[k]? =some c:=⟨_,lbf hlt⟩
  have cv:=aH9 c day
  have hst:Q9 cs scale day (k+1)=if decide (c.scale=scale) && a06 c day && a8S cs (Q9 cs scale day k) c then some k else Q9 cs scale day k:=by
   conv=>lhs;unfold Q9
   rw [hc]
  cases hcv:a06 c day with
  |false=>
   rw [hcv] at cv hst
   simp only [Bool.and_false,Bool.false_and,Bool.false_eq_true,if_false] at hst
   rw [← hst]
   conv=>whnf
   repeat' (first|refine zx ?_|refine qp cv ?_|refine d7 hc ?_|refine zd ?_ ?_<;>intro h<;>try omega|fail)<;>conv=>whnf
   all_goals first
    |omega
    |exact ⟨hlt,trivial,[],rfl,rfl,trivial,⟨rfl,rfl,rfl,rfl,rfl,rfl,rfl,rfl,trivial⟩⟩
  |true=>
   rw [hcv] at cv hst
   cases hf:Q9 cs scale day k with
   |none=>
    rw [hf] at hst
    conv=>whnf
    repeat' (first|refine zx ?_|refine qp cv ?_|refine d7 hc ?_|refine zd ?_ ?_<;>intro h<;>try omega|fail)<;>conv=>whnf
    ·exact ⟨hlt,trivial,[],rfl,rfl,trivial,⟨rfl,rfl,rfl,c6 (by rw [hst];simp [*,a8S,ac5]),b58 (by rw [hst];simp [*,a8S]),rfl,rfl,rfl,trivial⟩⟩
    ·exact ⟨hlt,trivial,[],rfl,rfl,trivial,⟨rfl,rfl,rfl,c6 (by rw [hst];simp [*,a8S,ac5]),b58 (by rw [hst];simp [*,a8S]),rfl,rfl,rfl,trivial⟩⟩
   |some b=>
    rw [hf] at hst
    obtain ⟨hb,cb,hcb,_⟩:=R2 hf
    have hsb:=b65 hcb
    conv=>whnf
    repeat' (first|refine zx ?_|refine qp cv ?_|refine d7 hc ?_|refine d7 hcb ?_|refine zd ?_ ?_<;>intro h<;>try omega|fail)<;>conv=>whnf
    all_goals first
     |exact ⟨hlt,trivial,[],rfl,rfl,trivial,⟨rfl,rfl,rfl,c6 (by rw [hst];simp [*,a8S,ac5]),b58 (by rw [hst];simp [*,a8S]),rfl,rfl,rfl,trivial⟩⟩
     |(exfalso;simp_all;done)
 ·have hke:k=cs.length:=by omega
  subst hke
  conv=>whnf
  repeat' (first|refine zx ?_|refine zd ?_ ?_<;>intro h<;>try omega|fail)<;>conv=>whnf
  all_goals first
   |omega
   |exact j3 ⟨rfl,rfl,trivial⟩
theorem ay3 (r:w7) (scale day:Int):b7 Tryz.prog 267 (.agg (r.row.map .t)::[b7D scale,b7D day].map fun x=>.c (.t x)) [] (f7 (decide (r.scale=scale) && decide (r.since<=day))) []:=by
 (refine ac Tryz.func267 ?_;(conv=>whnf);repeat (refine zy ?_;conv=>whnf))
 repeat' (first|refine zx ?_|refine zd ?_ ?_<;>intro h<;>try omega|fail)<;>conv=>whnf
 all_goals (refine c9 ?_;simp [*];try omega)
abbrev b9g (r:w7):S:=.agg (r.row.map .t)
def F7 {α:Type} (q:α->Bool):List α->Nat->Int
 |[],_=>-1
 |x::r,k=>if q x then k else F7 q r (k+1)
theorem a3z {α:Type} (q:α->Bool):∀(l:List α) (k:Nat),decide (0<=F7 q l k)=l.any q
 |[],k=>by simp [F7]
 |x::r,k=>by
  unfold F7
  rw [List.any_cons]
  cases h:q x with
  |true=>simp
  |false=>simpa using a3z q r (k+1)
theorem aU3 (rs:List w7) (hl:rs.length<=1000000) (g:FuncId) (caps:List T) (q:w7->Bool) (hg:∀r ∈ rs,b7 Tryz.prog g (b9g r::caps.map fun x=>.c (.t x)) [] (f7 (q r)) []):
 b7 Tryz.prog 304 [.c (.t (N4 rs)),.c (.t (.fn (.func g) caps))] [] (a8 .i64 (F7 q rs 0)) []:=by
 have l1:(rs.map w7.row).length=rs.length:=by simp
 (refine ac Tryz.func304 ?_;(conv=>whnf);repeat (refine zy ?_;conv=>whnf))
 repeat' (first|refine zx ?_|refine zd ?_ ?_<;>intro h<;>try omega|fail)<;>conv=>whnf
 refine f8 c7 (fun k=>([S.c (C.t (N4 rs)),S.c (C.t (T.fn (.func g) caps)),J,J,J,J,J,a8 .i64 rs.length,a8 .i64 k]++Jn 10,[])) rs.length (fun k=>F7 q (rs.drop k) k=F7 q rs 0) [] rfl
  ⟨rfl,rfl,trivial,⟨i5 rfl,i5 rfl,c6 (by simp),rfl,trivial⟩⟩ ?_
 intro k hk hI
 by_cases hlt:k<rs.length
 ·obtain ⟨r,hr⟩:∃r,rs[k]? =some r:=⟨_,lbf hlt⟩
  have hd:rs.drop k=r::rs.drop (k+1):=by
   rw [List.drop_eq_getElem_cons hlt]
   rw [lbf hlt] at hr
   injection hr with hr
   rw [hr]
  have hgr:=hg r (lbm hr)
  have ha:(b9g r::caps.map fun x=>S.c (C.t x)).all S.isT=true:=by simp [S.isT,C.isT,w7.row]
  rw [hd] at hI
  have hI:(if q r then (k:Int) else F7 q (rs.drop (k+1)) (k+1))=F7 q rs 0:=hI
  cases hq:q r with
  |true=>
   rw [hq] at hgr hI
   conv=>whnf
   repeat' (first|refine zx ?_|refine .inl ⟨_,_,G5 hgr ha rfl,?_⟩|refine d7 hr ?_|refine zd ?_ ?_<;>intro h<;>try omega|fail)<;>conv=>whnf
   all_goals first
    |omega
    |exact v8 hI
  |false=>
   rw [hq] at hgr hI
   conv=>whnf
   repeat' (first|refine zx ?_|refine .inl ⟨_,_,G5 hgr ha rfl,?_⟩|refine d7 hr ?_|refine zd ?_ ?_<;>intro h<;>try omega|fail)<;>conv=>whnf
   all_goals first
    |omega
    |exact ⟨hlt,by simpa using hI,[],rfl,rfl,trivial,⟨rfl,rfl,rfl,rfl,trivial⟩⟩
 ·have hke:k=rs.length:=by omega
  subst hke
  rw [lbo (lbQ _)] at hI
  conv=>whnf
  repeat' (first|refine zx ?_|refine zd ?_ ?_<;>intro h<;>try omega|fail)<;>conv=>whnf
  all_goals first
   |omega
   |exact v8 hI
theorem ak7 (rs:List w7) (hl:rs.length<=1000000) (g:FuncId) (caps:List T) (q:w7->Bool) (hg:∀r ∈ rs,b7 Tryz.prog g (b9g r::caps.map fun x=>.c (.t x)) [] (f7 (q r)) []):
 b7 Tryz.prog 266 [.c (.t (N4 rs)),.c (.t (.fn (.func g) caps))] [] (f7 (rs.any q)) []:=by
 have ix:=aU3 rs hl g caps q hg
 (refine ac Tryz.func266 ?_;(conv=>whnf);repeat (refine zy ?_;conv=>whnf))
 repeat' (first|refine zx ?_|refine qp ix ?_|refine zd ?_ ?_<;>intro h<;>try omega|fail)<;>conv=>whnf
 all_goals (refine c9 ?_;rw [← a3z q rs 0];simp;omega)
theorem aW4 (rs:List w7) (hl:rs.length<=1000000) (scale day:Int):b7 Tryz.prog 216 [.c (.t (N4 rs)),a8 .i64 scale,a8 .i64 day] [] (f7 (a9L rs scale day)) []:=by
 have ct:=ak7 rs hl 267 [b7D scale,b7D day] _ (fun r _=>ay3 r scale day)
 (refine ac Tryz.func216 ?_;(conv=>whnf);repeat ((first|refine b0x ?_|refine zy ?_);conv=>whnf))
 repeat' (first|refine zx ?_|refine qp ct ?_|refine zd ?_ ?_<;>intro h<;>try omega|fail)<;>conv=>whnf
 all_goals (refine c9 ?_;symm;assumption)
theorem a61 {c:E6} {day:Int} (h:a06 c day=true):0<=c.since∧c.since<=day∧day<=c.till∧c.till<=100000∧0<=c.grams∧c.grams<=1099511627776∧0<=c.permille∧c.permille<=1000∧0<=c.drift∧c.drift<=10000000:=by
 unfold a06 a0s btw at h
 simp only [lbM,lbI] at h
 omega
abbrev I3:Fr:=⟨⟨0,[]⟩,⟨0,[]⟩⟩
theorem b9m {f f':Fr} {b b':Bool} {H1:Hp} (h:f=f') (h2:b=b'):Fin 0 (.tup [frS f,f7 b]) H1 (.tup [frS f',f7 b']) []:=by
 subst h h2;exact j3 ⟨⟨rfl,rfl,rfl,rfl,trivial⟩,rfl,trivial⟩
structure b7T (c:E6) (reading day:Int):Prop where
 p0:0<=c.permille*reading
 p1:c.permille*reading<=1000*1099511627776
 d0:0<=c.drift*(day - c.since)
 d1:c.drift*(day - c.since)<=10000000*100000
theorem b7T.of {c:E6} {reading day:Int} (h:a06 c day=true) (hr:btw reading 0 1099511627776=true):b7T c reading day:=by
 have hc:=a61 h
 rw [a2j] at hr
 exact ⟨lbZ (by omega) (by omega),Int.mul_le_mul (by omega) (by omega) (by omega) (by omega),lbZ (by omega) (by omega),Int.mul_le_mul (by omega) (by omega) (by omega) (by omega)⟩
theorem b40 {c:E6} {reading day:Int} (h:a06 c day=true) (hr:btw reading 0 1099511627776=true):rl (a4M c reading day)<=9:=by
 have i:=b7T.of h hr
 have hc:=a61 h
 obtain ⟨p0,p1,d0,d1⟩:=i
 unfold a4M
 have h1:=a0q (Rat.divInt (c.permille*reading) 1000) ((c.grams+c.drift*(day - c.since):Int):Rat)
 have h2:rl (Rat.divInt (c.permille*reading) 1000)<=4:=lbR (a1l (by decide)) (by have:=a0l (x:=c.permille*reading) (by omega) (by omega);have:=a0l (x:=1000) (by decide) (by decide);omega)
 have h3:rl ((c.grams+c.drift*(day - c.since):Int):Rat)<=4:=by rw [a2t];have:=a0l (x:=c.grams+c.drift*(day - c.since)) (by omega) (by omega);omega
 omega
theorem b6t (c:E6) (reading day:Int) (h:a06 c day=true):b7 Tryz.prog 217 [b4c c,a8 .i64 reading,a8 .i64 day] []
 (.tup [frS (if btw reading 0 1099511627776 then fz (a4M c reading day) else I3),f7 (btw reading 0 1099511627776)]) []:=by
 have cv:=aH9 c day
 have wi:=a4i reading 1099511627776
 rw [h] at cv
 have hc:=a61 h
 cases hr:btw reading 0 1099511627776 with
 |false=>
  rw [hr] at wi
  (refine ac Tryz.func217 ?_;(conv=>whnf);repeat (refine zy ?_;conv=>whnf))
  repeat' (first|refine zx ?_|refine qp cv ?_|refine qp wi ?_|refine zd ?_ ?_<;>intro h<;>try omega|fail)<;>conv=>whnf
  all_goals first
   |(exfalso;simp_all;done)
   |exact j3 ⟨⟨rfl,rfl,rfl,rfl,trivial⟩,rfl,trivial⟩
 |true=>
  rw [hr] at wi
  obtain ⟨p0,p1,d0,d1⟩:=b7T.of h hr
  rw [a2j] at hr
  have fo:=b8w (c.permille*reading) 1000 (by decide) (by omega) (by omega) (by decide) (by decide)
  have fi:=D2 (c.grams+c.drift*(day - c.since)) (by omega) (by omega)
  have h2:rl (Rat.divInt (c.permille*reading) 1000)<=4:=lbR (a1l (by decide)) (by have:=a0l (x:=c.permille*reading) (by omega) (by omega);have:=a0l (x:=1000) (by decide) (by decide);omega)
  have h3:rl ((c.grams+c.drift*(day - c.since):Int):Rat)<=4:=by rw [a2t];have:=a0l (x:=c.grams+c.drift*(day - c.since)) (by omega) (by omega);omega
  have ad:=a0y (Rat.divInt (c.permille*reading) 1000) ((c.grams+c.drift*(day - c.since):Int):Rat) (by omega) (by omega)
  (refine ac Tryz.func217 ?_;(conv=>whnf);repeat (refine zy ?_;conv=>whnf))
  repeat' (first|refine zx ?_|refine qp cv ?_|refine qp wi ?_|refine qp fo ?_|refine qp fi ?_|refine qp ad ?_|refine qp 7 ?_|refine qp 15 ?_|refine bl0 [7] ?_|refine bl0 [15] ?_|refine zd ?_ ?_<;>intro h<;>try omega|fail)<;>conv=>whnf
  all_goals first
   |(exfalso;simp_all;done)
   |exact b9m rfl rfl
abbrev ivL (o:Option (Rat × Rat)):List S:=match o with
 |some (lo,hi)=>[frS (fz lo),frS (fz hi),f7 true]
 |none=>[frS I3,frS I3,f7 false]
theorem b6W {x y:Rat} {n:Nat} (h1:rl x<=n) (h2:rl y<=n):rl (aC3 x y)<=n:=by unfold aC3;split<;>assumption
theorem aG3 {cs:List E6} {rs:List w7} {scale reading day:Int} {lo hi:Rat} (h:L7 cs rs scale reading day=some (lo,hi)):rl lo<=20∧rl hi<=20:=by
 unfold L7 at h
 split at h
 ·cases h
 ·rename_i i hi
  obtain ⟨hb,c,hc,_,hcv⟩:=R2 hi
  have e:a2C cs i=c:=by unfold a2C;rw [hc];rfl
  rw [e] at h
  split at h
  ·cases h
  ·split at h
   ·rename_i hr
    injection h with h
    injection h with h1 h2
    have l1:=b40 hcv hr
    rw [a2j] at hr
    have l2:rl (reading:Rat)<=4:=by rw [a2t];have:=a0l (x:=reading) (by omega) (by omega);omega
    have l3:=a0q (reading:Rat) (a4M c reading day)
    have l4:=a8m (reading:Rat) (a4M c reading day)
    refine ⟨?_,by rw [← h2];omega⟩
    rw [← h1]
    exact b6W (by omega) (by rw [a54];omega)
   ·cases h
theorem a6y (cs:List E6) (rs:List w7) (hl:cs.length<=1000000) (hl2:rs.length<=1000000) (scale reading day:Int):
 b7 Tryz.prog 147 [.c (.t (a0W cs)),.c (.t (N4 rs)),a8 .i64 scale,a8 .i64 reading,a8 .i64 day] [] (.tup (ivL (L7 cs rs scale reading day))) []:=by
 have f:=b8E cs scale day hl
 have r:=aW4 rs hl2 scale day
 unfold L7
 cases hf:Q9 cs scale day cs.length with
 |none=>
  rw [hf] at f
  (refine ac Tryz.func147 ?_;(conv=>whnf);repeat (refine zy ?_;conv=>whnf))
  repeat' (first|refine zx ?_|refine qp f ?_|refine qp r ?_|refine qp 1 ?_|refine qp 6 ?_|refine bl0 [1] ?_|refine bl0 [6] ?_|refine zd ?_ ?_<;>intro h<;>try omega|fail)<;>conv=>whnf
  all_goals first
   |(exfalso;simp_all;done)
   |exact j3 ⟨⟨rfl,rfl,rfl,rfl,trivial⟩,⟨rfl,rfl,rfl,rfl,trivial⟩,rfl,trivial⟩
 |some i=>
  rw [hf] at f
  obtain ⟨hb,c,hc,_,hcv⟩:=R2 hf
  have e:a2C cs i=c:=by unfold a2C;rw [hc];rfl
  have er:=b6t c reading day hcv
  simp only [e]
  cases hrec:a9L rs scale day with
  |true=>
   rw [hrec] at r
   (refine ac Tryz.func147 ?_;(conv=>whnf);repeat (refine zy ?_;conv=>whnf))
   repeat' (first|refine zx ?_|refine qp f ?_|refine qp r ?_|refine qp 1 ?_|refine qp 6 ?_|refine bl0 [1] ?_|refine bl0 [6] ?_|refine zd ?_ ?_<;>intro h<;>try omega|fail)<;>conv=>whnf
   all_goals first
    |(exfalso;simp_all;done)
    |exact j3 ⟨⟨rfl,rfl,rfl,rfl,trivial⟩,⟨rfl,rfl,rfl,rfl,trivial⟩,rfl,trivial⟩
  |false=>
   rw [hrec] at r
   cases hr:btw reading 0 1099511627776 with
   |false=>
    rw [hr] at er
    (refine ac Tryz.func147 ?_;(conv=>whnf);repeat (refine zy ?_;conv=>whnf))
    repeat' (first|refine zx ?_|refine qp f ?_|refine qp r ?_|refine qp er ?_|refine qp 1 ?_|refine qp 9 ?_|refine d7 hc ?_|refine bl0 [1] ?_|refine bl0 [9] ?_|refine zd ?_ ?_<;>intro h<;>try omega|fail)<;>conv=>whnf
    all_goals first
     |exact j3 ⟨⟨rfl,rfl,rfl,rfl,trivial⟩,⟨rfl,rfl,rfl,rfl,trivial⟩,rfl,trivial⟩
     |(exfalso;simp_all;done)
   |true=>
    have l1:=b40 hcv hr
    rw [hr] at er
    rw [a2j] at hr
    have l2:rl (reading:Rat)<=4:=by rw [a2t];have:=a0l (x:=reading) (by omega) (by omega);omega
    have fi:=D2 reading (by omega) (by omega)
    have f0:=D2 0 (by omega) (by omega)
    have sb:=aA1 (reading:Rat) (a4M c reading day) (by omega) (by omega)
    have ad:=a0y (reading:Rat) (a4M c reading day) (by omega) (by omega)
    have l4:=a8m (reading:Rat) (a4M c reading day)
    have mx:=b8D ((reading:Rat) - a4M c reading day) ((0:Int):Rat) (by omega) (by rw [a54];omega)
    (refine ac Tryz.func147 ?_;(conv=>whnf);repeat (refine zy ?_;conv=>whnf))
    repeat' (first|refine zx ?_|refine qp f ?_|refine qp r ?_|refine qp er ?_|refine qp fi ?_|refine qp f0 ?_|refine qp sb ?_|refine qp ad ?_|refine qp mx ?_|refine qp 1 ?_|refine qp 9 ?_|refine qp 5 ?_|refine d7 hc ?_|refine bl0 [1] ?_|refine bl0 [9] ?_|refine bl0 [5] ?_|refine zd ?_ ?_<;>intro h<;>try omega|fail)<;>conv=>whnf
    all_goals first
     |exact j3 ⟨⟨rfl,rfl,rfl,rfl,trivial⟩,⟨rfl,rfl,rfl,rfl,trivial⟩,rfl,trivial⟩
     |(exfalso;simp_all;done)
def j5 (f:Fr):List T:=[ti f.p.sg,N3 f.p.dl,ti f.q.sg,N3 f.q.dl]
abbrev E9 (l:List Fr):T:=.sl 4 .any (l.map j5)
abbrev j7 (l:List Fr):S:=.c (.t (E9 l))
def L3 (l:List Fr):List T:=[E9 l]
abbrev b0f (h:List (List Fr)):T:=.sl 1 .any (h.map L3)
abbrev Z9 (h:List (List Fr)):S:=.c (.t (b0f h))
abbrev evP (e:Ev):T:=.ptr (evT e)
structure a6a (n:Nat) (h:List (List Fr)):Prop where
 l1:h.length<=1000000
 l2:∀l ∈ h,l.length<=1000000
 l3:∀l ∈ h,∀f ∈ l,f.p.dl.length<=n∧f.q.dl.length<=n
theorem a2z {α:Type} {l:List α} {f:α->Bool} (h:(l.take l.length).all f=true):l.all f=true:=by rwa [lbn (lbQ _)] at h
theorem aH1 (e:Ev) (hh:List (List Fr)) (hs:a6a 200000 hh) (hm:e.moves.length<=1000000):b7 Tryz.prog 71 [evS e,Z9 hh] [] (f7 (P9 e hh)) []:=by
 have m1:(hh.map L3).length=hh.length:=by simp
 have m2:(e.moves.map j6.row).length=e.moves.length:=by simp
 have l1:=hs.l1
 let P:List Fr->Bool:=fun l=>decide ((l.length:Int)=e.mats) && l.all C9
 have hP:P9 e hh=(decide (hh.length=e.moves.length) && hh.all P):=rfl
 by_cases hlen:hh.length=e.moves.length
 ·(refine ac Tryz.func71 ?_;(conv=>whnf);repeat ((first|refine b0x ?_|refine zy ?_);conv=>whnf))
  repeat' (first|refine zx ?_|refine zd ?_ ?_<;>intro h<;>try omega|fail)<;>conv=>whnf
  refine f8 c7 (fun k=>([J,J,S.c (C.t (evP e))]++Jn 12++[Z9 hh,a8 .i64 hh.length,a8 .i64 k]++Jn 19,[])) hh.length (fun k=>(hh.take k).all P=true) [] rfl
   ⟨rfl,rfl,trivial,⟨rfl,i5 rfl,c6 (by simp),rfl,trivial⟩⟩ ?_
  intro k hk hI
  by_cases hlt:k<hh.length
  ·obtain ⟨l,hl⟩:∃l,hh[k]? =some l:=⟨_,lbf hlt⟩
   have hmem:=lbm hl
   have l2:=hs.l2 l hmem
   have m3:(l.map j5).length=l.length:=by simp
   have hall:(hh.take (k+1)).all P=P l:=by rw [A6 hl,hI,Bool.true_and]
   conv=>whnf
   repeat' (first|refine zx ?_|refine d7 hl ?_|refine zd ?_ ?_<;>intro h<;>try omega|fail)<;>conv=>whnf
   ·have hd:¬(l.length:Int)=e.mats:=by omega
    refine c9 ?_
    rw [hP,B3 hl (by simp [P,hd])];simp
   ·have hd:(l.length:Int)=e.mats:=by omega
    refine f8 c7 (fun j=>([J,J,S.c (C.t (evP e))]++Jn 12++[Z9 hh,a8 .i64 hh.length,a8 .i64 k,J,J,J,J,J,J,J,J,j7 l,a8 .i64 l.length,a8 .i64 j]++Jn 8,[])) l.length (fun j=>(l.take j).all C9=true) [] rfl
     ⟨rfl,rfl,trivial,⟨rfl,rfl,rfl,rfl,i5 rfl,c6 (by simp),rfl,trivial⟩⟩ ?_
    intro j hj hJ
    by_cases hjt:j<l.length
    ·obtain ⟨f,hf⟩:∃f,l[j]? =some f:=⟨_,lbf hjt⟩
     have l3:=hs.l3 l hmem f (lbm hf)
     have r:=a36 f l3.1 l3.2
     conv=>whnf
     repeat' (first|refine zx ?_|refine qp r ?_|refine d7 hf ?_|refine zd ?_ ?_<;>intro h<;>try omega|fail)<;>conv=>whnf
     all_goals first
      |omega
      |(have hr:C9 f=true:=by assumption
        exact ⟨hjt,by rw [A6 hf,hJ,hr];rfl,[],rfl,rfl,trivial,⟨rfl,rfl,rfl,rfl,rfl,rfl,rfl,trivial⟩⟩)
      |(have hr:C9 f=false:=by assumption
        refine c9 ?_
        rw [hP,B3 hl (by simp only [P];rw [B3 hf hr,Bool.and_false]),Bool.and_false])
    ·have hje:j=l.length:=by omega
     subst hje
     conv=>whnf
     repeat' (first|refine zx ?_|refine zd ?_ ?_<;>intro h<;>try omega|fail)<;>conv=>whnf
     all_goals first
      |omega
      |exact ⟨hlt,by rw [hall];simp only [P];rw [a2z hJ];simp [hd],[],rfl,rfl,trivial,⟨rfl,rfl,rfl,rfl,trivial⟩⟩
  ·have hke:k=hh.length:=by omega
   subst hke
   conv=>whnf
   repeat' (first|refine zx ?_|refine zd ?_ ?_<;>intro h<;>try omega|fail)<;>conv=>whnf
   all_goals first
    |omega
    |(refine c9 ?_;rw [hP,a2z hI];simp [hlen])
 ·(refine ac Tryz.func71 ?_;(conv=>whnf);repeat ((first|refine b0x ?_|refine zy ?_);conv=>whnf))
  repeat' (first|refine zx ?_|refine zd ?_ ?_<;>intro h<;>try omega|fail)<;>conv=>whnf
  all_goals first
   |omega
   |(refine c9 ?_;rw [hP];simp [hlen])
theorem I1 (l:List Rat) {k:Nat} {x:Rat} (h:l[k]? =some x):(l.map fz)[k]? =some (fz x):=by rw [lba,h];rfl
theorem b2m {l:List Rat} {k:Nat} {x:Rat} (h:l[k]? =some x):S5 (l.take (k+1))=S5 (l.take k)+x:=by rw [lbG,h];exact ap5 _ _
theorem b0V {f f':Fr} {H1:Hp} (h:f=f'):Fin 0 (frS f) H1 (frS f') []:=by subst h;exact j3 ⟨rfl,rfl,rfl,rfl,trivial⟩
abbrev frB (f:Fr):Blk:={ mode:=.live,elem:=35,size:=4,rows:=[frC f],box:=true }
theorem m9 (f:Fr):E5 [frC f]:=by
 intro r hr c hc
 simp at hr
 subst hr
 simp [frC] at hc
 rcases hc with rfl|rfl|rfl|rfl<;>rfl
theorem bd8 (l:List Rat) (hB:∀x ∈ l,rl x<=200) (hl:l.length<=200):b7 Tryz.prog 75 [j7 (l.map fz)] [] (frS (fz (S5 l))) []:=by
 have m1:((l.map fz).map j5).length=l.length:=by simp
 have i0:=D2 0 (by decide) (by decide)
 (refine ac Tryz.func75 ?_;(conv=>whnf);repeat (refine zy ?_;conv=>whnf))
 repeat' (first|refine zx ?_|refine qp i0 ?_|refine zd ?_ ?_<;>intro h<;>try omega|fail)<;>conv=>whnf
 refine f8 c7 (fun k=>([J,J,S.c (C.ptr 0 0 0),S.c (C.ptr 1 0 0),J,J,J,j7 (l.map fz),a8 .i64 l.length,a8 .i64 k]++Jn 11,[frB I3,frB (fz (S5 (l.take k)))])) l.length (fun _=>True) [some 0,some 1] trivial
  ⟨rfl,rfl,⟨⟨rfl,rfl,rfl,.inr ⟨⟨rfl,rfl,rfl,rfl,trivial⟩,trivial⟩⟩,⟨rfl,rfl,rfl,.inl ⟨rfl,m9 _⟩⟩,trivial⟩,⟨⟨rfl,rfl,rfl⟩,⟨rfl,rfl,rfl⟩,i5 rfl,c6 (by simp),rfl,trivial⟩⟩ ?_
 intro k hk _
 by_cases hlt:k<l.length
 ·obtain ⟨x,hx⟩:∃x,l[k]? =some x:=⟨_,lbf hlt⟩
  have bx:=hB x (lbm hx)
  have bs:=b0p (l:=l.take k) (B:=200) fun y hy=>hB y (List.mem_of_mem_take hy)
  have lt:(l.take k).length<=200:=by simp;omega
  have bs2:rl (S5 (l.take k))<=200*201+1:=lbR bs (by have:=lbT (200+1) lt;omega)
  have ad:=a0y (S5 (l.take k)) x (by omega) (by omega)
  rw [← b2m hx] at ad
  conv=>whnf
  repeat' (first|refine zx ?_|refine qp ad ?_|refine qp 5 ?_|refine d7 (I1 l hx) ?_|refine bl0 [5] ?_|refine zd ?_ ?_<;>intro h<;>try omega|fail)<;>conv=>whnf
  all_goals first
   |omega
   |exact ⟨hlt,trivial,[some 0,some 1],rfl,rfl,⟨⟨rfl,rfl,rfl,.inl ⟨rfl,m9 _⟩⟩,⟨rfl,rfl,rfl,.inl ⟨rfl,m9 _⟩⟩,trivial⟩,⟨⟨rfl,rfl,rfl⟩,⟨rfl,rfl,rfl⟩,rfl,rfl,rfl,trivial⟩⟩
 ·have hke:k=l.length:=by omega
  subst hke
  rw [lbn (lbQ _)]
  conv=>whnf
  repeat' (first|refine zx ?_|refine zd ?_ ?_<;>intro h<;>try omega|fail)<;>conv=>whnf
  all_goals first
   |omega
   |exact b0V rfl
theorem a59 {x:Rat}:sgR x<0↔x<0:=by unfold sgR;split<;>(try split)<;>simp_all
theorem aS9 (l:List Rat) (hB:∀x ∈ l,rl x<=200) (hl:l.length<=200):b7 Tryz.prog 73 [j7 (l.map fz)] [] (f7 (l.any fun v=>decide (v<0))) []:=by
 have m1:((l.map fz).map j5).length=l.length:=by simp
 (refine ac Tryz.func73 ?_;(conv=>whnf);repeat (refine zy ?_;conv=>whnf))
 repeat' (first|refine zx ?_|refine zd ?_ ?_<;>intro h<;>try omega|fail)<;>conv=>whnf
 refine f8 c7 (fun k=>([J,J,J,J,J,j7 (l.map fz),a8 .i64 l.length,a8 .i64 k]++Jn 7,[])) l.length (fun k=>(l.take k).any (fun v=>decide (v<0))=false) [] rfl
  ⟨rfl,rfl,trivial,⟨i5 rfl,c6 (by simp),rfl,trivial⟩⟩ ?_
 intro k hk hI
 by_cases hlt:k<l.length
 ·obtain ⟨x,hx⟩:∃x,l[k]? =some x:=⟨_,lbf hlt⟩
  have bx:=hB x (lbm hx)
  have sg:=Y8 x (by omega)
  conv=>whnf
  repeat' (first|refine zx ?_|refine qp sg ?_|refine d7 (I1 l hx) ?_|refine zd ?_ ?_<;>intro h<;>try omega|fail)<;>conv=>whnf
  all_goals first
   |omega
   |(have h0:sgR x<0:=by omega
     refine c9 ?_;rw [a6j hx (by simpa using a59.1 h0)])
   |(have h0:¬sgR x<0:=by omega
     have h1:¬x<0:=fun h=>h0 (a59.2 h)
     exact ⟨hlt,by rw [a2F hx,hI];simpa using h1,[],rfl,rfl,trivial,⟨rfl,rfl,rfl,trivial⟩⟩)
 ·have hke:k=l.length:=by omega
  subst hke
  rw [lbn (lbQ _)] at hI
  conv=>whnf
  repeat' (first|refine zx ?_|refine zd ?_ ?_<;>intro h<;>try omega|fail)<;>conv=>whnf
  all_goals first
   |omega
   |exact c9 hI.symm
theorem az6 {x y:Rat}:a1j x y<=0↔x<=y:=by
 unfold a1j
 split
 ·simp;grind
 ·split
  ·simp;grind
  ·simp;grind
theorem b27 (e:Ev) (x:j6) (mass:Rat) (hm:rl mass<=60000) (hs:e.Sized):b7 Tryz.prog 76 [evS e,aj1 x,frS (fz mass)] [] (f7 (Z5 e x mass)) []:=by
 have l1:=hs.s3
 have l2:=hs.s4
 have iv:=a6y e.certs e.recalls (by omega) (by omega) x.scale x.reading x.day
 unfold Z5
 by_cases hsc:x.scale=-1
 ·rw [if_pos hsc]
  (refine ac Tryz.func76 ?_;(conv=>whnf);repeat (refine zy ?_;conv=>whnf))
  repeat' (first|refine zx ?_|refine zd ?_ ?_<;>intro h<;>try omega|fail)<;>conv=>whnf
  all_goals first
   |omega
   |exact c9 rfl
 ·rw [if_neg hsc]
  cases hiv:L7 e.certs e.recalls x.scale x.reading x.day with
  |none=>
   rw [hiv] at iv
   (refine ac Tryz.func76 ?_;(conv=>whnf);repeat (refine zy ?_;conv=>whnf))
   repeat' (first|refine zx ?_|refine qp iv ?_|refine zd ?_ ?_<;>intro h<;>try omega|fail)<;>conv=>whnf
   all_goals first
    |(exfalso;simp_all;done)
    |exact c9 rfl
  |some p=>
   obtain ⟨lo,hi⟩:=p
   obtain ⟨b1,b2⟩:=aG3 hiv
   rw [hiv] at iv
   have c1:=G6 lo mass (by omega) (by omega)
   have c2:=G6 mass hi (by omega) (by omega)
   (refine ac Tryz.func76 ?_;(conv=>whnf);repeat (refine zy ?_;conv=>whnf))
   repeat' (first|refine zx ?_|refine qp iv ?_|refine qp c1 ?_|refine qp c2 ?_|refine zd ?_ ?_<;>intro h<;>try omega|fail)<;>conv=>whnf
   all_goals first
    |(exfalso;simp_all;done)
    |(refine c9 ?_;simp only [inB,←az6];simp;omega)
theorem a1Q {x y:Rat}:a1j x y > 0↔y<x:=by
 have:=az6 (x:=x) (y:=y)
 constructor
 ·intro h;have h2:¬x<=y:=fun h'=>by have:=this.2 h';omega
  grind
 ·intro h;have h2:¬a1j x y<=0:=fun h'=>by have:=this.1 h';grind
  omega
theorem aX5 {e:Ev} (h0:V4 e=true) {p:s9} (hp:p ∈ e.purities):0<=p.mat∧p.mat<e.mats∧0<=p.least∧p.least<=p.most∧p.most<=1000:=by
 unfold V4 at h0
 simp only [lbM,lbv] at h0
 have:=h0.2 p hp
 unfold Y6 at this
 simp only [lbM,lbI,a6O] at this
 omega
theorem b9w (e:Ev) (i:Nat) (l:List Rat) (mass:Rat) (hm:rl mass<=50000) (hB:∀x ∈ l,rl x<=200) (hl:l.length<=200) (hw:(l.length:Int)=e.mats) (h0:V4 e=true) (hs:e.Sized) (hi:i<=1000000):
 b7 Tryz.prog 77 [evS e,a8 .i64 i,j7 (l.map fz),frS (fz mass)] [] (f7 (a4r e.purities i l mass)) []:=by
 have m1:(e.purities.map s9.row).length=e.purities.length:=by simp
 have m2:((l.map fz).map j5).length=l.length:=by simp
 have l1:=hs.s5
 let P:s9->Bool:=fun p=>decide (p.move≠(i:Int)) || a4W p l mass
 have hP:a4r e.purities i l mass=e.purities.all P:=rfl
 (refine ac Tryz.func77 ?_;(conv=>whnf);repeat ((first|refine b0x ?_|refine zy ?_);conv=>whnf))
 repeat' (first|refine zx ?_|refine zd ?_ ?_<;>intro h<;>try omega|fail)<;>conv=>whnf
 refine f8 c7 (fun k=>([J,a8 .i64 i,j7 (l.map fz),J,J,J,J,S.c (C.t (T.ptr (j5 (fz mass))))]++Jn 10++[S.c (C.t (P4 e.purities)),a8 .i64 e.purities.length,a8 .i64 k]++Jn 44,[])) e.purities.length (fun k=>(e.purities.take k).all P=true) [] rfl
  ⟨rfl,rfl,trivial,⟨rfl,i5 rfl,i5 rfl,i5 rfl,c6 (by simp),rfl,trivial⟩⟩ ?_
 intro k hk hI
 by_cases hlt:k<e.purities.length
 ·obtain ⟨p,hp⟩:∃p,e.purities[k]? =some p:=⟨_,lbf hlt⟩
  have hall:(e.purities.take (k+1)).all P=P p:=by rw [A6 hp,hI,Bool.true_and]
  by_cases hmv:p.move=(i:Int)
  ·obtain ⟨q1,q2,q3,q4,q5⟩:=aX5 h0 (lbm hp)
   obtain ⟨x,hx⟩:∃x,l[p.mat.toNat]? =some x:=⟨_,lbf (by omega)⟩
   have hxd:l.getD p.mat.toNat 0=x:=by rw [lbl,hx];rfl
   have bx:=hB x (lbm hx)
   have b1:rl ((1000:Int):Rat)<=4:=by rw [a2t];have:=a0l (x:=1000) (by decide) (by decide);omega
   have b2:rl (p.least:Rat)<=4:=by rw [a2t];have:=a0l (x:=p.least) (by omega) (by omega);omega
   have b3:rl (p.most:Rat)<=4:=by rw [a2t];have:=a0l (x:=p.most) (by omega) (by omega);omega
   have i1:=D2 1000 (by decide) (by decide)
   have i2:=D2 p.least (by omega) (by omega)
   have i3:=D2 p.most (by omega) (by omega)
   have u1:=a3t ((1000:Int):Rat) x (by omega) (by omega)
   have u2:=a3t (p.least:Rat) mass (by omega) (by omega)
   have u3:=a3t (p.most:Rat) mass (by omega) (by omega)
   have k1:=V8 ((1000:Int):Rat) x
   have k2:=V8 (p.least:Rat) mass
   have k3:=V8 (p.most:Rat) mass
   have c1:=G6 (((1000:Int):Rat)*x) ((p.least:Rat)*mass) (by omega) (by omega)
   have c2:=G6 (((1000:Int):Rat)*x) ((p.most:Rat)*mass) (by omega) (by omega)
   have hPp:P p=(decide (¬ a1j (((1000:Int):Rat)*x) ((p.least:Rat)*mass)<0) && decide (a1j (((1000:Int):Rat)*x) ((p.most:Rat)*mass)<=0)):=by
    simp only [P,a4W,hmv,hxd]
    simp only [a5j,az6]
    have e1:((p.least:Rat)*mass<=((1000:Int):Rat)*x)↔¬(((1000:Int):Rat)*x<(p.least:Rat)*mass):=by grind
    simp only [e1]
    simp
   conv=>whnf
   repeat' (first|refine zx ?_|refine qp i1 ?_|refine qp i2 ?_|refine qp i3 ?_|refine qp u1 ?_|refine qp u2 ?_|refine qp u3 ?_|refine qp c1 ?_|refine qp c2 ?_|refine qp 9 ?_|refine qp 7 ?_|refine d7 hp ?_|refine F3 (by omega) (I1 l hx) ?_|refine bl0 [9] ?_|refine bl0 [7] ?_|refine zd ?_ ?_<;>intro h<;>try omega|fail)<;>conv=>whnf
   ·refine c9 ?_
    rw [hP,B3 hp (by rw [hPp];simp only [lbO,lbK];omega)]
   ·refine c9 ?_
    rw [hP,B3 hp (by rw [hPp];simp only [lbO,lbK];omega)]
   ·exact ⟨hlt,by rw [hall,hPp];simp only [lbM,lbI];omega,[],rfl,rfl,trivial,⟨rfl,rfl,rfl,rfl,rfl,rfl,trivial⟩⟩
  ·conv=>whnf
   repeat' (first|refine zx ?_|refine d7 hp ?_|refine zd ?_ ?_<;>intro h<;>try omega|fail)<;>conv=>whnf
   all_goals first
    |omega
    |exact ⟨hlt,by rw [hall];simp [P,hmv],[],rfl,rfl,trivial,⟨rfl,rfl,rfl,rfl,rfl,rfl,trivial⟩⟩
 ·have hke:k=e.purities.length:=by omega
  subst hke
  conv=>whnf
  repeat' (first|refine zx ?_|refine zd ?_ ?_<;>intro h<;>try omega|fail)<;>conv=>whnf
  all_goals first
   |omega
   |(refine c9 ?_;rw [hP,a2z hI])
def a8G (e:Ev) (G:List (List Rat)) (k:Nat) (x:j6):Int:=Z4 e x (G.getD k []) (stk e G k) k
theorem aC8 (e:Ev) (G:List (List Rat)) (k:Nat) (x:j6) (r:List j6):a4v e G k (x::r)=if a8G e G k x≠0 then a8G e G k x else a4v e G (k+1) r:=rfl
theorem a41 {e:Ev} {G:List (List Rat)}:∀{ms:List j6} {k:Nat},a4v e G k ms=0↔∀j x,ms[j]? =some x->a8G e G (k+j) x=0
 |[],k=>by simp [a4v]
 |y::r,k=>by
  rw [aC8]
  constructor
  ·intro h j x hx
   by_cases h0:a8G e G k y=0
   ·rw [if_neg (by simpa using h0)] at h
    cases j with
    |zero=>simp at hx;subst hx;exact h0
    |succ j=>rw [show k+(j+1)=k+1+j by omega];exact a41.1 h j x (by simpa using hx)
   ·rw [if_pos h0] at h;exact absurd h h0
  ·intro h
   have h0:=h 0 y rfl
   rw [if_neg (by simpa using h0)]
   exact a41.2 fun j x hx=>by rw [show k+1+j=k+(j+1) by omega];exact h (j+1) x (by simpa using hx)
theorem aS0 {e:Ev} {G:List (List Rat)}:a44 e G=0↔∀(k:Nat) (x:j6),e.moves[k]? =some x->a8G e G k x=0:=by
 unfold a44
 rw [a41]
 simp
structure b9H (e:Ev) (x:j6) (l:List Rat) (f:Nat->Nat->Rat) (i:Nat):Prop where
 pos:∀v ∈ l,¬v<0
 tak:a2v e f x l=0
 wei:Z5 e x (S5 l)=true
 pur:a4r e.purities i l (S5 l)=true
theorem af5 {e:Ev} {x:j6} {l:List Rat} {f:Nat->Nat->Rat} {i:Nat}:Z4 e x l f i=0↔b9H e x l f i:=by
 unfold Z4
 constructor
 ·intro h
  by_cases h1:l.any (fun v=>decide (v<0))=true
  ·rw [if_pos h1] at h;cases h
  rw [if_neg h1] at h
  by_cases h2:a2v e f x l=0
  ·rw [if_neg (by simpa using h2)] at h
   by_cases h3:Z5 e x (S5 l)=false
   ·rw [if_pos h3] at h;cases h
   rw [if_neg h3] at h
   by_cases h4:a4r e.purities i l (S5 l)=false
   ·rw [if_pos h4] at h;cases h
   refine ⟨fun v hv hn=>h1 (lbw.2 ⟨v,hv,by simpa using hn⟩),h2,by simpa using h3,by simpa using h4⟩
  ·rw [if_pos h2] at h;exact absurd h h2
 ·rintro ⟨h1,h2,h3,h4⟩
  rw [if_neg (by rw [lbw];rintro ⟨v,hv,hn⟩;exact h1 v hv (by simpa using hn)),if_neg (by simpa using h2),if_neg (by simp [h3]),if_neg (by simp [h4])]
theorem a9a (f:Nat->Rat) (all:Bool):∀(l:List Rat) (k:Nat) (rest:Bool),a0g f all l k rest=0↔(∀ m v,l[m]? =some v->¬f (k+m)<v)∧(all=true->rest=false∧∀m v,l[m]? =some v->¬v<f (k+m))
 |[],k,rest=>by unfold a0g;cases rest<;>cases all<;>simp
 |v::r,k,rest=>by
  unfold a0g
  by_cases h:f k<v
  ·rw [if_pos h]
   constructor
   ·intro h';cases h'
   ·rintro ⟨h1,_⟩;exact absurd h (h1 0 v rfl)
  ·rw [if_neg h,a9a f all r (k+1)]
   constructor
   ·rintro ⟨h1,h2⟩
    refine ⟨fun m u hm=>?_,fun ha=>?_⟩
    ·cases m with
     |zero=>simp at hm;subst hm;exact h
     |succ m=>have:=h1 m u (by simpa using hm);rwa [show k+1+m=k+(m+1) by omega] at this
    ·obtain ⟨q1,q2⟩:=h2 ha
     simp only [Bool.or_eq_false_iff,lbK] at q1
     refine ⟨q1.1,fun m u hm=>?_⟩
     cases m with
     |zero=>simp at hm;subst hm;exact q1.2
     |succ m=>have:=q2 m u (by simpa using hm);rwa [show k+1+m=k+(m+1) by omega] at this
   ·rintro ⟨h1,h2⟩
    refine ⟨fun m u hm=>?_,fun ha=>?_⟩
    ·have:=h1 (m+1) u (by simpa using hm);rwa [show k+(m+1)=k+1+m by omega] at this
    ·obtain ⟨q1,q2⟩:=h2 ha
     refine ⟨?_,fun m u hm=>?_⟩
     ·simp only [Bool.or_eq_false_iff,lbK]
      exact ⟨q1,q2 0 v rfl⟩
     ·have:=q2 (m+1) u (by simpa using hm);rwa [show k+(m+1)=k+1+m by omega] at this
theorem ab7 {e:Ev} {hh:List (List Fr)} (h:W6 e hh=0):m8 e=0∧P9 e hh=true∧a44 e (hh.map (·.map fv))=0:=by
 unfold W6 at h
 by_cases h0:m8 e≠0
 ·rw [if_pos h0] at h;cases h
 rw [if_neg h0] at h
 cases hs:P9 e hh with
 |false=>rw [hs] at h;cases h
 |true=>rw [hs] at h;exact ⟨by omega,rfl,h⟩
def i7 (f:Nat->Rat):Nat->Rat
 |0=>((0:Int):Rat)
 |n+1=>i7 f n+f n
theorem O1:((0:Int):Rat)=0:=rfl
theorem aL0 (l:List Rat):∀n,n<=l.length->S5 (l.take n)=i7 (fun m=>l.getD m 0) n
 |0,_=>rfl
 |n+1,h=>by
  have hg:l[n]? =some (l.getD n 0):=by rw [lbl,lbf (by omega)];rfl
  rw [lbG,hg]
  show S5 (l.take n++[l.getD n 0])=_
  rw [ap5,aL0 l n (by omega)];rfl
theorem b4E (l:List Rat):S5 l=i7 (fun m=>l.getD m 0) l.length:=by
 have:=aL0 l l.length (lbQ _)
 rwa [lbn (lbQ _)] at this
theorem aK8 (a b:Nat->Rat) (t:Rat):∀n,i7 (fun m=>a m+t*(b m - a m)) n=i7 a n+t*(i7 b n - i7 a n)
 |0=>by simp only [i7,O1];grind
 |n+1=>by simp only [i7];rw [aK8 a b t n];grind
theorem d9 {f g:Nat->Rat}:∀{n:Nat},(∀ m,m<n->f m=g m)->i7 f n=i7 g n
 |0,_=>rfl
 |n+1,h=>by simp only [i7];rw [d9 fun m hm=>h m (by omega),h n (by omega)]
theorem a7p (f:Nat->Rat) (v:Rat) (d:Nat):∀n,i7 (fun p=>if p=d then f p+v else f p) n=i7 f n+(if d<n then v else 0)
 |0=>by simp only [i7,O1];rw [if_neg (by omega)];grind
 |n+1=>by
  simp only [i7]
  rw [a7p f v d n]
  rcases Nat.lt_trichotomy d n with h|h|h
  ·rw [if_pos h,if_neg (by omega),if_pos (by omega)];grind
  ·subst h;rw [if_neg (by omega),if_pos rfl,if_pos (by omega)];grind
  ·rw [if_neg (by omega),if_neg (by omega),if_neg (by omega)];grind
theorem b1O (f:Nat->Rat) (v:Rat) {s d n:Nat} (hs:s<n) (hd:d<n) (hsd:s≠d):i7 (fun p=>if p=s then f p - v else if p=d then f p+v else f p) n=i7 f n:=by
 have e:∀m,m<n->(if m=s then f m - v else if m=d then f m+v else f m)=(if m=s then (if m=d then f m+v else f m)+-v else (if m=d then f m+v else f m)):=fun m _=>by
  by_cases h:m=s
  ·subst h;rw [if_pos rfl,if_pos rfl,if_neg hsd];grind
  ·rw [if_neg h,if_neg h]
 rw [d9 e,a7p (fun p=>if p=d then f p+v else f p) (-v) s n,a7p f v d n,if_pos hs,if_pos hd]
 grind
theorem ay9 {e:Ev} (h0:m8 e=0) (G:List (List Rat)) (m:Nat):∀k,i7 (fun p=>stk e G k p m) e.places.length=0
 |0=>by
  have:∀n,i7 (fun p=>stk e G 0 p m) n=0:=fun n=>by
   induction n with
   |zero=>rfl
   |succ n ih=>simp only [i7];rw [ih];simp only [stk,O1];grind
  exact this _
 |k+1=>by
  cases hx:e.moves[k]? with
  |none=>
   have:stk e G (k+1)=stk e G k:=by conv=>lhs;unfold stk
                                    rw [hx]
   rw [this];exact ay9 h0 G m k
  |some x=>
   have hm:=O2 h0 (lbm hx)
   have ms:=a0i hm
   have md:=a6p hm
   have hne:x.src≠x.dst:=by unfold O0 at hm;simp only [lbM,lbI] at hm;exact hm.1.1.1.1.1.2
   have:stk e G (k+1)=A8 x (hAt G k) (stk e G k):=by conv=>lhs;unfold stk
                                                     rw [hx]
   rw [this,←ay9 h0 G m k]
   rw [← b1O (fun p=>stk e G k p m) (hAt G k m) (s:=x.src.toNat) (d:=x.dst.toNat) (n:=e.places.length) (by omega) (by omega) (by omega)]
   refine d9 fun p _=>?_
   unfold A8
   have c1:(x.src=(p:Int))↔p=x.src.toNat:=by omega
   have c2:(x.dst=(p:Int))↔p=x.dst.toNat:=by omega
   simp only [c1,c2]
def V9 (a b:List Rat) (t:Rat):List Rat:=(List.range a.length).map fun m=>a.getD m 0+t*(b.getD m 0 - a.getD m 0)
theorem aO7 {a b:List Rat} {t:Rat} (h:b.length=a.length) (m:Nat):(V9 a b t).getD m 0=a.getD m 0+t*(b.getD m 0 - a.getD m 0):=by
 unfold V9
 rw [lbl,lba]
 by_cases hm:m<a.length
 ·rw [lbh hm];rfl
 ·rw [lbd (by simp;omega)]
  rw [lbl (l:=a),lbl (l:=b),lbd (l:=a) (by omega),lbd (l:=b) (by omega)]
  simp only [Option.map_none,Option.getD_none]
  grind
theorem getD_some {l:List Rat} {m:Nat} (h:m<l.length):l[m]? =some (l.getD m 0):=by rw [lbl,lbf h];rfl
theorem aN7 {e:Ev} {G:List (List Rat)} {k:Nat} {x:j6} (hx:e.moves[k]? =some x):stk e G (k+1)=A8 x (hAt G k) (stk e G k):=by
 conv=>lhs;unfold stk
 rw [hx]
theorem b07 {e:Ev} {G:List (List Rat)} {k:Nat} (hx:e.moves[k]? =none):stk e G (k+1)=stk e G k:=by
 conv=>lhs;unfold stk
 rw [hx]
theorem aU9 {e:Ev} {x:j6} (h:O0 e x=true) (ha:x.all=true):F2 e x.src≠0:=by
 unfold O0 at h
 simp only [lbM,lbI] at h
 have:=h.1.1.2
 rw [ha] at this
 simpa using this
theorem b2K {e:Ev} {H:List (List Rat)} {k:Nat} {x:j6} (hx:e.moves[k]? =some x):stk e H (k+1)=A8 x (hAt H k) (stk e H k):=by
 conv=>lhs;unfold stk
 rw [hx]
theorem b6n {e:Ev} {H:List (List Rat)} {k p m:Nat} {x:j6} (hx:e.moves[k]? =some x) (h:x.src=(p:Int)):stk e H (k+1) p m=stk e H k p m - hAt H k m:=by
 rw [b2K hx];unfold A8;rw [if_pos h]
def a2w (e:Ev) (x:j6):Option (Rat × Rat):=if x.scale=-1 then none else L7 e.certs e.recalls x.scale x.reading x.day
theorem aU7 (e:Ev) (x:j6) (m:Rat):Z5 e x m=inB (a2w e x) m:=by
 unfold Z5 a2w
 by_cases h:x.scale=-1
 ·rw [if_pos h,if_pos h];rfl
 ·rw [if_neg h,if_neg h]
structure b2Z where
 mv:Int
 kind:Int
 grams:Int
structure aF0 where
 mv:Int
 kind:Int
structure Q0 where
 ev:Ev
 finds:List b2Z
 cleans:List aF0
def b1w (e:Ev) (mv kind:Int):Int:=if mv<0∨(e.moves.length:Int)<=mv then 4 else if kind<0∨8<=kind then 1 else 0
def a86 (e:Ev):List b2Z->Int
 |[]=>0
 |f::r=>if b1w e f.mv f.kind≠0 then b1w e f.mv f.kind else if f.grams<1∨1099511627776<f.grams then 3 else a86 e r
def a9J (e:Ev):List aF0->Int
 |[]=>0
 |c::r=>if b1w e c.mv c.kind≠0 then b1w e c.mv c.kind else a9J e r
def a3B (t:Q0):Int:=
 if m8 t.ev≠0 then m8 t.ev else if 20<t.finds.length∨50<t.cleans.length then 6
 else if a86 t.ev t.finds≠0 then a86 t.ev t.finds else a9J t.ev t.cleans
def a52 (l:List b2Z) (kind:Int) (i:Nat):List Int:=(l.filter fun f=>decide (f.kind=kind) && decide (f.mv=(i:Int))).map (·.grams)
def a4e (l:List aF0) (kind:Int) (i:Nat):Nat:=(l.filter fun c=>decide (c.kind=kind) && decide (c.mv=(i:Int))).length
def col (z:List Rat):List (List Rat):=z.map fun v=>[v]
theorem b6M (z:List Rat) (k:Nat):hAt (col z) k 0=z.getD k 0:=by
 unfold hAt col
 cases h:z[k]?<;>simp [lbl,h]
def a3w (e:Ev) (z:List Rat) (k p:Nat):Rat:=stk e (col z) k p 0
def b9p (iv:Option (Rat × Rat)) (v:Rat):Bool:=match iv with
 |none=>true
 |some (_,hi)=>decide (v<=hi)
structure bb4 (e:Ev) (x:j6) (v f:Rat):Prop where
 pos:0<=v
 most:F2 e x.src≠0->v<=f
 all:x.all=true->v=f
structure b66 (t:Q0) (kind:Int) (i:Nat) (x:j6) (v:Rat):Prop where
 cap:b9p (a2w t.ev x) v=true
 fin:∀g ∈ a52 t.finds kind i,(g:Rat)<=v
 cln:0<a4e t.cleans kind i->v=0
structure bc2 (t:Q0) (kind:Int) (z:List Rat):Prop where
 tr:a3B t=0
 k0:0<=kind
 k1:kind<8
 len:z.length=t.ev.moves.length
 step:∀i x,t.ev.moves[i]? =some x->bb4 t.ev x (z.getD i 0) (a3w t.ev z i x.src.toNat)∧b66 t kind i x (z.getD i 0)
theorem b9i (z:List Rat):(z.map fz).map fv=z:=by
 rw [List.map_map]
 conv=>rhs;rw [← List.map_id z]
 exact lbp fun x _=>b4I x
theorem a4A {t:Q0} (h:a3B t=0):m8 t.ev=0∧t.finds.length<=20∧t.cleans.length<=50∧a86 t.ev t.finds=0∧a9J t.ev t.cleans=0:=by
 unfold a3B at h
 by_cases h1:m8 t.ev≠0
 ·rw [if_pos h1] at h;exact absurd h h1
 rw [if_neg h1] at h
 by_cases h2:20<t.finds.length∨50<t.cleans.length
 ·rw [if_pos h2] at h;cases h
 rw [if_neg h2] at h
 by_cases h3:a86 t.ev t.finds≠0
 ·rw [if_pos h3] at h;exact absurd h h3
 rw [if_neg h3] at h
 exact ⟨by simpa using h1,by omega,by omega,by simpa using h3,h⟩
theorem b1K {t:Q0} (h1:m8 t.ev=0) (h2:t.finds.length<=20) (h3:t.cleans.length<=50) (h4:a86 t.ev t.finds=0) (h5:a9J t.ev t.cleans=0):a3B t=0:=by
 unfold a3B
 rw [if_neg (by simp [h1]),if_neg (by omega),if_neg (by simp [h4]),h5]
def a0F (t:Q0):Q0:={ t with finds:=[] }
theorem b2p {t:Q0} (h:a3B t=0):a3B (a0F t)=0:=by
 obtain ⟨q1,q2,q3,q4,q5⟩:=a4A h
 exact b1K q1 (by simp [a0F]) q3 rfl q5
theorem b1R {e:Ev} {z:List Rat} {k:Nat} {x:j6} (hx:e.moves[k]? =some x) (p:Nat):a3w e z (k+1) p=if x.src=(p:Int) then a3w e z k p - z.getD k 0 else if x.dst=(p:Int) then a3w e z k p+z.getD k 0 else a3w e z k p:=by
 unfold a3w
 rw [aN7 hx]
 unfold A8
 rw [b6M]
theorem b57 {e:Ev} {z:List Rat} {k:Nat} (hx:e.moves[k]? =none) (p:Nat):a3w e z (k+1) p=a3w e z k p:=by
 unfold a3w
 rw [b07 hx]
theorem a1D {f:Nat->Rat}:∀{n:Nat},(∀ p,p<n->0<=f p)->0<=i7 f n
 |0,_=>lb1
 |n+1,h=>by
  have h1:=a1D (n:=n) fun p hp=>h p (by omega)
  have h2:=h n (by omega)
  simp only [i7];grind
structure k7 where
 terms:List (Int × Rat)
 kind:Int
 value:Rat
structure g6 where
 n:Int
 rows:List k7
def j1 (l:List (Int × Rat)) (z:List Rat):Rat:=l.foldl (fun a t=>a+t.2*z.getD t.1.toNat 0) ((0:Int):Rat)
theorem K3 (l:List (Int × Rat)) (t:Int × Rat) (z:List Rat):j1 (l++[t]) z=j1 l z+t.2*z.getD t.1.toNat 0:=by unfold j1;rw [List.foldl_append];rfl
def d8:Int->Int->List (Int × Rat)->Bool
 |_,_,[]=>true
 |last,n,t::r=>decide (last<t.1) && decide (t.1<n) && decide (t.2≠0) && d8 t.1 n r
def s6 (n:Int) (w:k7):Bool:=d8 (-1) n w.terms && decide (0<=w.kind) && decide (w.kind<3)
def i9 (s:g6):Bool:=decide (0<=s.n) && decide (s.n<=1500) && decide (s.rows.length<=6000) && s.rows.all (s6 s.n)
def G1 (w:k7) (z:List Rat):Bool:=!((decide (j1 w.terms z<w.value) && decide (w.kind≠1)) || (decide (w.value<j1 w.terms z) && decide (w.kind≠0)))
def i4 (s:g6) (z:List Rat):Bool:=i9 s && decide ((z.length:Int)=s.n) && z.all (fun v=>decide (0<=v)) && s.rows.all (fun w=>G1 w z)
def P7 (e:Ev) (p:Int):Nat->List (Int × Rat)
 |0=>[]
 |k+1=>match e.moves[k]? with
  |none=>P7 e p k
  |some y=>if y.dst=p then P7 e p k++[((k:Int),((1:Int):Rat))] else if y.src=p then P7 e p k++[((k:Int),((-1:Int):Rat))] else P7 e p k
def a04 (e:Ev) (i:Nat) (x:j6):k7:=⟨P7 e x.src i++[((i:Int),((-1:Int):Rat))],if x.all then 2 else 0,((0:Int):Rat)⟩
def Z2 (i:Nat) (kind:Int) (v:Rat):k7:=⟨[((i:Int),((1:Int):Rat))],kind,v⟩
def a5b (iv:Option (Rat × Rat)) (i:Nat):List k7:=match iv with
 |none=>[]
 |some (_,hi)=>[Z2 i 1 hi]
def a0R (t:Q0) (kind:Int) (i:Nat) (x:j6):List k7:=
 (if F2 t.ev x.src=0 then [] else [a04 t.ev i x])++a5b (a2w t.ev x) i++(a52 t.finds kind i).map (fun g:Int=>Z2 i 0 (g:Rat))++List.replicate (a4e t.cleans kind i) (Z2 i 2 ((0:Int):Rat))
def a0A (t:Q0) (kind:Int):Nat->List k7
 |0=>[]
 |k+1=>match t.ev.moves[k]? with
  |none=>a0A t kind k
  |some x=>a0A t kind k++a0R t kind k x
def a8Q (t:Q0) (kind:Int):g6:=⟨t.ev.moves.length,a0A t kind t.ev.moves.length⟩
theorem ab6 {e:Ev} (h0:m8 e=0) (z:List Rat) (p:Nat):∀k,j1 (P7 e p k) z=a3w e z k p
 |0=>rfl
 |k+1=>by
  have ih:=ab6 h0 z p k
  unfold P7
  cases hx:e.moves[k]? with
  |none=>rw [b57 hx];exact ih
  |some y=>
   have hm:=O2 h0 (lbm hx)
   have hne:y.src≠y.dst:=by unfold O0 at hm;simp only [lbM,lbI] at hm;exact hm.1.1.1.1.1.2
   rw [b1R hx]
   simp only
   by_cases c1:y.dst=(p:Int)
   ·rw [if_pos c1,if_neg (by omega),if_pos c1,K3,ih]
    simp only [lbX]
    have:((1:Int):Rat)=1:=rfl
    rw [this];grind
   ·rw [if_neg c1]
    by_cases c2:y.src=(p:Int)
    ·rw [if_pos c2,if_pos c2,K3,ih]
     simp only [lbX]
     have:((-1:Int):Rat)=-1:=rfl
     rw [this];grind
    ·rw [if_neg c2,if_neg c2,if_neg c1];exact ih
theorem X9 {w:k7} {z:List Rat}:G1 w z=true↔(j1 w.terms z<w.value->w.kind=1)∧(w.value<j1 w.terms z->w.kind=0):=by
 unfold G1
 simp only [Bool.not_eq_true',Bool.or_eq_false_iff,lbO,lbK,Classical.not_not]
 constructor
 ·rintro ⟨h1,h2⟩
  exact ⟨fun h=>h1.resolve_left (fun h'=>h' h),fun h=>h2.resolve_left (fun h'=>h' h)⟩
 ·rintro ⟨h1,h2⟩
  refine ⟨?_,?_⟩
  ·by_cases h:j1 w.terms z<w.value
   ·exact .inr (h1 h)
   ·exact .inl h
  ·by_cases h:w.value<j1 w.terms z
   ·exact .inr (h2 h)
   ·exact .inl h
theorem aA2 (i:Nat) (kind:Int) (v:Rat) (z:List Rat):j1 (Z2 i kind v).terms z=z.getD i 0:=by
 show ((0:Int):Rat)+((1:Int):Rat)*z.getD ((i:Int)).toNat 0=_
 rw [lbX]
 have h0:((0:Int):Rat)=0:=rfl
 have h1:((1:Int):Rat)=1:=rfl
 rw [h0,h1];grind
theorem b3i {i:Nat} {v:Rat} {z:List Rat}:G1 (Z2 i 1 v) z=true↔z.getD i 0<=v:=by
 rw [X9,aA2]
 show (_->(1:Int)=1)∧(v<z.getD i 0->(1:Int)=0)↔_
 constructor
 ·rintro ⟨_,h⟩;exact lb2.1 fun h'=>absurd (h h') (by decide)
 ·intro h;exact ⟨fun _=>rfl,fun h'=>absurd h' (lb2.2 h)⟩
theorem ar0 {i:Nat} {v:Rat} {z:List Rat}:G1 (Z2 i 0 v) z=true↔v<=z.getD i 0:=by
 rw [X9,aA2]
 show (z.getD i 0<v->(0:Int)=1)∧(_->(0:Int)=0)↔_
 constructor
 ·rintro ⟨h,_⟩;exact lb2.1 fun h'=>absurd (h h') (by decide)
 ·intro h;exact ⟨fun h'=>absurd h' (lb2.2 h),fun _=>rfl⟩
theorem a4Y {i:Nat} {v:Rat} {z:List Rat}:G1 (Z2 i 2 v) z=true↔z.getD i 0=v:=by
 rw [X9,aA2]
 show (z.getD i 0<v->(2:Int)=1)∧(v<z.getD i 0->(2:Int)=0)↔_
 constructor
 ·rintro ⟨h,h2⟩
  have q1:¬z.getD i 0<v:=fun h'=>absurd (h h') (by decide)
  have q2:¬v<z.getD i 0:=fun h'=>absurd (h2 h') (by decide)
  grind
 ·intro h;exact ⟨fun h'=>by grind,fun h'=>by grind⟩
theorem stock_holds {e:Ev} (h0:m8 e=0) {i:Nat} {x:j6} (hx:e.moves[i]? =some x) {z:List Rat}:G1 (a04 e i x) z=true↔z.getD i 0<=a3w e z i x.src.toNat∧(x.all=true->z.getD i 0=a3w e z i x.src.toNat):=by
 have hm:=O2 h0 (lbm hx)
 have ms:=a0i hm
 have hv:j1 (a04 e i x).terms z=a3w e z i x.src.toNat - z.getD i 0:=by
  unfold a04
  simp only
  rw [K3,show P7 e x.src i=P7 e ((x.src.toNat:Nat):Int) i by rw [show ((x.src.toNat:Nat):Int)=x.src by omega],ab6 h0]
  simp only [lbX]
  have:((-1:Int):Rat)=-1:=rfl
  rw [this];grind
 have hz:(a04 e i x).value=0:=rfl
 have hk:(a04 e i x).kind=if x.all then 2 else 0:=rfl
 rw [X9,hv,hz,hk]
 cases hal:x.all with
 |true=>
  simp only [if_true]
  constructor
  ·rintro ⟨h,h2⟩
   have q1:¬a3w e z i x.src.toNat - z.getD i 0<0:=fun h'=>absurd (h h') (by decide)
   have q2:¬0<a3w e z i x.src.toNat - z.getD i 0:=fun h'=>absurd (h2 h') (by decide)
   exact ⟨by grind,fun _=>by grind⟩
  ·rintro ⟨h,h2⟩
   have h2:=h2 trivial
   exact ⟨fun h'=>by grind,fun h'=>by grind⟩
 |false=>
  simp only [Bool.false_eq_true,if_false]
  constructor
  ·rintro ⟨h,h2⟩
   have q1:¬a3w e z i x.src.toNat - z.getD i 0<0:=fun h'=>absurd (h h') (by decide)
   exact ⟨by grind,fun h=>(by cases h)⟩
  ·rintro ⟨h,_⟩
   exact ⟨fun h'=>by grind,fun _=>trivial⟩
theorem move_holds {t:Q0} {kind:Int} (h0:m8 t.ev=0) {i:Nat} {x:j6} (hx:t.ev.moves[i]? =some x) {z:List Rat} (hz:0<=z.getD i 0):
 (a0R t kind i x).all (fun w=>G1 w z)=true↔bb4 t.ev x (z.getD i 0) (a3w t.ev z i x.src.toNat)∧b66 t kind i x (z.getD i 0):=by
 have hmo:=O2 h0 (lbm hx)
 unfold a0R
 simp only [List.all_append,lbM,List.all_map]
 have e1:(if F2 t.ev x.src=0 then ([]:List k7) else [a04 t.ev i x]).all (fun w=>G1 w z)=true↔(F2 t.ev x.src≠0->z.getD i 0<=a3w t.ev z i x.src.toNat∧(x.all=true->z.getD i 0=a3w t.ev z i x.src.toNat)):=by
  by_cases hb:F2 t.ev x.src=0
  ·rw [if_pos hb];exact ⟨fun _ h=>absurd hb h,fun _=>rfl⟩
  ·rw [if_neg hb]
   simp only [List.all_cons,List.all_nil,Bool.and_true]
   rw [stock_holds h0 hx]
   exact ⟨fun h _=>h,fun h=>h hb⟩
 have e2:(a5b (a2w t.ev x) i).all (fun w=>G1 w z)=true↔b9p (a2w t.ev x) (z.getD i 0)=true:=by
  cases hiv:a2w t.ev x with
  |none=>exact ⟨fun _=>rfl,fun _=>rfl⟩
  |some p=>
   obtain ⟨lo,hi⟩:=p
   simp only [a5b,b9p,List.all_cons,List.all_nil,Bool.and_true,lbI]
   exact b3i
 have e3:(a52 t.finds kind i).all ((fun w=>G1 w z) ∘ fun g:Int=>Z2 i 0 (g:Rat))=true↔∀g ∈ a52 t.finds kind i,(g:Rat)<=z.getD i 0:=by
  rw [lbv]
  exact ⟨fun h g hg=>ar0.1 (h g hg),fun h g hg=>ar0.2 (h g hg)⟩
 have e4:(List.replicate (a4e t.cleans kind i) (Z2 i 2 ((0:Int):Rat))).all (fun w=>G1 w z)=true↔(0<a4e t.cleans kind i->z.getD i 0=0):=by
  rw [lbv]
  constructor
  ·intro h hc;exact a4Y.1 (h _ (List.mem_replicate.2 ⟨by omega,rfl⟩))
  ·intro h w hw
   obtain ⟨h1,rfl⟩:=List.mem_replicate.1 hw
   exact a4Y.2 (h (by omega))
 rw [e1,e2,e3,e4]
 constructor
 ·rintro ⟨⟨⟨q1,q2⟩,q3⟩,q4⟩
  exact ⟨⟨hz,fun h=>(q1 h).1,fun h=>(q1 (aU9 hmo h)).2 h⟩,⟨q2,q3,q4⟩⟩
 ·rintro ⟨p1,p2⟩
  exact ⟨⟨⟨fun h=>⟨p1.most h,p1.all⟩,p2.cap⟩,p2.fin⟩,p2.cln⟩
theorem a2q {t:Q0} {kind:Int} {q:k7->Bool}:∀n,n<=t.ev.moves.length->((a0A t kind n).all q=true↔∀i x,i<n->t.ev.moves[i]? =some x->(a0R t kind i x).all q=true)
 |0,_=>⟨fun _ i x h=>by omega,fun _=>rfl⟩
 |n+1,h=>by
  obtain ⟨y,hy⟩:∃y,t.ev.moves[n]? =some y:=⟨_,lbf (by omega)⟩
  unfold a0A
  rw [hy]
  simp only [List.all_append,lbM]
  rw [a2q n (by omega)]
  constructor
  ·rintro ⟨h1,h2⟩ i x hi hx
   rcases Nat.lt_or_ge i n with h3|h3
   ·exact h1 i x h3 hx
   ·obtain rfl:i=n:=by omega
    rw [hy] at hx;injection hx with hx;subst hx;exact h2
  ·intro h1
   exact ⟨fun i x hi hx=>h1 i x (by omega) hx,h1 n y (by omega) hy⟩
theorem a6r {last n i:Int} {c:Rat} (h1:last<i) (h2:i<n) (h3:c≠0):d8 last n [(i,c)]=true:=by
 unfold d8
 simp [h1,h2,h3,d8]
theorem X8 {n:Int} {c:Rat} {i:Int} (h2:i<n) (h3:c≠0):∀{l:List (Int × Rat)} {last:Int},d8 last n l=true->last<i->(∀ t ∈ l,t.1<i)->d8 last n (l++[(i,c)])=true
 |[],last,_,h,_=>a6r h h2 h3
 |t::r,last,h,h1,ht=>by
  unfold d8 at h
  simp only [lbM,lbI] at h
  show d8 last n (t::(r++[(i,c)]))=true
  unfold d8
  simp only [lbM,lbI]
  exact ⟨h.1,X8 h2 h3 h.2 (ht t (by simp)) fun u hu=>ht u (by simp [hu])⟩
theorem a3F:((1:Int):Rat)≠0:=by decide
theorem a4o:((-1:Int):Rat)≠0:=by decide
theorem a5W {e:Ev} {p:Int} {n:Int}:∀k:Nat,(k:Int)<=n->d8 (-1) n (P7 e p k)=true∧∀t ∈ P7 e p k,t.1<(k:Int)
 |0,_=>⟨rfl,fun t ht=>by cases ht⟩
 |k+1,h=>by
  obtain ⟨h1,h2⟩:=a5W (e:=e) (p:=p) (n:=n) k (by omega)
  have h3:∀c:Rat,c≠0->d8 (-1) n (P7 e p k++[((k:Int),c)])=true∧∀t ∈ P7 e p k++[((k:Int),c)],t.1<((k+1:Nat):Int):=fun c hc=>
   ⟨X8 (by omega) hc h1 (by omega) h2,fun t ht=>by
     rcases lbz.1 ht with ht|ht
     ·have:=h2 t ht;omega
     ·simp at ht;subst ht;simp;omega⟩
  unfold P7
  cases hx:e.moves[k]? with
  |none=>exact ⟨h1,fun t ht=>by have:=h2 t ht;omega⟩
  |some y=>
   simp only
   split
   ·exact h3 _ a3F
   ·split
    ·exact h3 _ a4o
    ·exact ⟨h1,fun t ht=>by have:=h2 t ht;omega⟩
theorem aR9 {t:Q0} {kind:Int} {i:Nat} {x:j6} {n:Int} (hi:(i:Int)<n):(a0R t kind i x).all (s6 n)=true:=by
 have ho:∀(k:Int) (v:Rat),0<=k->k<3->s6 n (Z2 i k v)=true:=fun k v h1 h2=>by
  unfold s6 Z2
  simp only [lbM,lbI]
  exact ⟨⟨a6r (by omega) hi a3F,h1⟩,h2⟩
 unfold a0R
 simp only [List.all_append,lbM,lbv]
 refine ⟨⟨⟨fun w hw=>?_,fun w hw=>?_⟩,fun w hw=>?_⟩,fun w hw=>?_⟩
 ·by_cases hb:F2 t.ev x.src=0
  ·rw [if_pos hb] at hw;cases hw
  ·rw [if_neg hb] at hw
   simp at hw
   subst hw
   obtain ⟨h1,h2⟩:=a5W (e:=t.ev) (p:=x.src) (n:=n) i (by omega)
   unfold s6 a04
   simp only [lbM,lbI]
   refine ⟨⟨X8 hi a4o h1 (by omega) h2,?_⟩,?_⟩<;>split<;>decide
 ·cases hiv:a2w t.ev x with
  |none=>rw [hiv] at hw;cases hw
  |some p=>
   obtain ⟨lo,hi⟩:=p
   rw [hiv] at hw
   simp [a5b] at hw
   subst hw
   exact ho 1 hi (by decide) (by decide)
 ·obtain ⟨g,_,rfl⟩:=lbx.1 hw
  exact ho 0 _ (by decide) (by decide)
 ·obtain ⟨_,rfl⟩:=List.mem_replicate.1 hw
  exact ho 2 _ (by decide) (by decide)
theorem aA9 {t:Q0} {kind:Int} {i:Nat} {x:j6}:(a0R t kind i x).length<=2+t.finds.length+t.cleans.length:=by
 unfold a0R
 have h1:(a5b (a2w t.ev x) i).length<=1:=by unfold a5b;split<;>simp
 have h2:(a52 t.finds kind i).length<=t.finds.length:=by unfold a52;rw [lbr];exact lbt _ _
 have h3:a4e t.cleans kind i<=t.cleans.length:=lbt _ _
 have h4:(if F2 t.ev x.src=0 then ([]:List k7) else [a04 t.ev i x]).length<=1:=by split<;>simp
 simp only [lbq,lbr,List.length_replicate]
 omega
theorem a4D {t:Q0} {kind:Int}:∀n,(a0A t kind n).length<=n*(2+t.finds.length+t.cleans.length)
 |0=>by simp [a0A]
 |n+1=>by
  have ih:=a4D (t:=t) (kind:=kind) n
  unfold a0A
  rw [lbU]
  cases hx:t.ev.moves[n]? with
  |none=>simp only;omega
  |some x=>
   have:=aA9 (t:=t) (kind:=kind) (i:=n) (x:=x)
   simp only [lbq]
   omega
theorem a87 {t:Q0} {kind:Int} (hm:t.ev.moves.length<=14) (hf:t.finds.length<=20) (hc:t.cleans.length<=50):i9 (a8Q t kind)=true:=by
 unfold i9 a8Q
 have h1:=a4D (t:=t) (kind:=kind) t.ev.moves.length
 have h2:t.ev.moves.length*(2+t.finds.length+t.cleans.length)<=14*72:=lbS hm (by omega)
 simp only [lbM,lbI]
 refine ⟨⟨⟨by omega,by omega⟩,by omega⟩,?_⟩
 rw [a2q _ (lbQ _)]
 intro i x hi hx
 exact aR9 (by omega)
theorem sys_holds {t:Q0} {kind:Int} {z:List Rat} (ht:a3B t=0) (k0:0<=kind) (k1:kind<8) (hm:t.ev.moves.length<=14):i4 (a8Q t kind) z=true↔bc2 t kind z:=by
 obtain ⟨q1,q2,q3,q4,q5⟩:=a4A ht
 unfold i4
 rw [a87 hm q2 q3]
 simp only [Bool.true_and,lbM,lbI]
 constructor
 ·rintro ⟨⟨h1,h2⟩,h3⟩
  have hl:z.length=t.ev.moves.length:=by have:(z.length:Int)=t.ev.moves.length:=h1;omega
  refine ⟨ht,k0,k1,hl,fun i x hx=>?_⟩
  have hi:i<t.ev.moves.length:=(lbe.1 hx).1
  have hz:0<=z.getD i 0:=lbL (lbv.1 h2 _ (lbm (getD_some (by omega))))
  exact (move_holds q1 hx hz).1 ((a2q _ (lbQ _)).1 h3 i x hi hx)
 ·intro h
  refine ⟨⟨?_,?_⟩,?_⟩
  ·show (z.length:Int)=t.ev.moves.length
   rw [h.len]
  ·rw [lbv]
   intro v hv
   obtain ⟨i,hi,rfl⟩:=List.getElem_of_mem hv
   obtain ⟨x,hx⟩:∃x,t.ev.moves[i]? =some x:=⟨_,lbf (by rw [← h.len];exact hi)⟩
   have:=(h.step i x hx).1.pos
   rw [lbl,lbf hi] at this
   exact lbH this
  ·show (a0A t kind t.ev.moves.length).all _=true
   rw [a2q _ (lbQ _)]
   intro i x hi hx
   obtain ⟨a,b⟩:=h.step i x hx
   exact (move_holds q1 hx a.pos).2 ⟨a,b⟩
def b2Z.row (f:b2Z):List T:=[ti f.mv,ti f.kind,ti f.grams]
def aF0.row (c:aF0):List T:=[ti c.mv,ti c.kind]
structure Q0.Sized (t:Q0):Prop where
 ev:t.ev.Sized
 f:t.finds.length<=1000000
 c:t.cleans.length<=1000000
theorem a4C {x:Rat}:sgR x=0↔x=0:=by unfold sgR;split<;>(try split)<;>simp_all<;>grind
def j9 (x:Int × Rat):List T:=ti x.1::j5 (fz x.2)
abbrev a2E (l:List (Int × Rat)):T:=.sl 5 .any (l.map j9)
def C8 (w:k7):List T:=a2E w.terms::ti w.kind::j5 (fz w.value)
def bg0 (w:k7):List C:=.t (a2E w.terms)::.t (ti w.kind)::frC (fz w.value)
abbrev b74 (w:k7):S:=.agg (bg0 w)
abbrev S6 (l:List k7):T:=.sl 6 .any (l.map C8)
abbrev S7 (s:g6):S:=.agg [.t (ti s.n),.t (S6 s.rows)]
section
open Go.RowKit
section
variable {α β:Type}
theorem aw2 {l:List α}:∀{i:Nat} {x:α} {k:α->Prop},l[i]? =some x->k x->a3e i l k:=by
 induction l with
 |nil=>intro i x k h;simp at h
 |cons a r ih=>
  intro i x k h hk
  cases i with
  |zero=>simp at h;subst h;exact hk
  |succ i=>exact ih (by simpa using h) hk
theorem b0T {v:α} {l:List α} {i:Nat} {k:List α->Prop} (h:k (l.set i v)):a5E i v l k:=L4.2 h
theorem R8 {r l:List α} {k:List α->Prop} (h:k (l++r)):ad7 l r k:=a38.2 h
theorem o8 {l:List α} {k:List α->Prop} (h:k l):ad7 l [] k:=R8 (by rw [List.append_nil];exact h)
theorem b09 {l:List α} {n:Nat} {k:Nat->Prop} (h:k (l.length+n)):a9s l n k:=a0K.2 (by rw [Nat.add_comm];exact h)
theorem P1 {f:β->α} {M:List β} {N n:Nat} {k:Nat->Prop} (h:M.length=N) (hk:k (N+n)):a9s (M.map f) n k:=b09 (by simpa [h] using hk)
theorem j2 {f:β->α} {M:List β} {T:List α} {N n:Nat} {k:Nat->Prop} (h:M.length=N) (hk:a9s T n fun m=>k (N+m)):a9s (M.map f++T) n k:=by
 refine b09 ?_
 have:=(a0K (k:=fun m=>k (N+m))).1 hk
 simpa [h,Nat.add_assoc,Nat.add_comm n] using this
theorem i8 {f:β->α} {M:List β} {T r:List α} {k:List α->Prop} (h:ad7 T r fun q=>k (M.map f++q)):ad7 (M.map f++T) r k:=by
 refine R8 ?_
 rw [lbD]
 exact (a38 (k:=fun q=>k (M.map f++q))).1 h
theorem b4n {f:β->α} {M:List β} {i:Nat} {x:β} {k:α->Prop} (h:M[i]? =some x) (hk:k (f x)):a3e i (M.map f) k:=aw2 (by rw [lba,h];rfl) hk
theorem R5 {f:β->α} {M:List β} {T:List α} {i:Nat} {x:β} {k:α->Prop} (h:M[i]? =some x) (hk:k (f x)):a3e i (M.map f++T) k:=
 aw2 (by rw [lbb (by simpa using (lbe.1 h).1),lba,h];rfl) hk
theorem g7 {f:β->α} {M:List β} {T:List α} {N t:Nat} {k:α->Prop} (h:M.length=N) (hk:a3e t T k):a3e (N+t) (M.map f++T) k:=by
 obtain ⟨x,h1,h2⟩:=N1 hk
 exact aw2 (by rw [lbc (by simp [h])];simpa [h] using h1) h2
theorem w6 {f:β->α} {M:List β} {T:List α} {N:Nat} {k:α->Prop} (h:M.length=N) (hk:a3e 0 T k):a3e N (M.map f++T) k:=g7 (t:=0) h hk
theorem a5d {f:β->α} {M:List β} {T:List α} {i:Nat} {v:α} {x:β} {k:List α->Prop} (hi:i<M.length) (hv:v=f x) (h:k ((M.set i x).map f++T)):a5E i v (M.map f++T) k:=
 b0T (by rw [List.set_append_left _ _ (by simpa using hi),hv,←List.map_set];exact h)
theorem g9 {f:β->α} {M:List β} {T:List α} {N t:Nat} {v:α} {k:List α->Prop} (h:M.length=N) (hk:a5E t v T fun q=>k (M.map f++q)):a5E (N+t) v (M.map f++T) k:=by
 refine b0T ?_
 rw [List.set_append_right _ _ (by simp [h])]
 simpa [h] using (L4 (k:=fun q=>k (M.map f++q))).1 hk
theorem R6 {f:β->α} {M:List β} {T:List α} {N:Nat} {v:α} {k:List α->Prop} (h:M.length=N) (hk:a5E 0 v T fun q=>k (M.map f++q)):a5E N v (M.map f++T) k:=g9 (t:=0) h hk
end
def idR (n:Nat):List (Option Nat):=(List.range n).map some
theorem aC0 (n:Nat):(idR n).length=n:=by simp [idR]
theorem j4 {n i:Nat} (h:i<n):(idR n)[i]? =some (some i):=by simp [idR,h]
theorem b1v {n i j:Nat} (h:(idR n)[i]? =some (some j)):i=j:=by
 obtain ⟨h1,h2⟩:=lbe.1 h
 simp [idR] at h2
 exact h2
theorem a5D {n:Nat}:∀{m:Nat},m<=n->a1M (idR n) m=true
 |0,_=>rfl
 |m+1,h=>by
  unfold a1M
  rw [j4 (by omega),a5D (by omega)]
  simp
theorem aD9:∀{r:List (Option Nat)} {H:Hp} {n:Nat},(∀ j:Nat,r[j]?≠some (some n))->a7y n r H=false
 |[],H,n,_=>by cases H<;>rfl
 |x::r,[],n,_=>by cases x<;>rfl
 |x::r,k::H,n,h=>by
  unfold a7y
  rw [aD9 (r:=r) (H:=H) (n:=n) (fun j=>by simpa using h (j+1)),Bool.or_false]
  split
  ·rfl
  ·rename_i m _
   have:m≠n:=by rintro rfl;exact h 0 rfl
   cases hb:Nat.beq m n with
   |false=>rfl
   |true=>exact absurd (Nat.eq_of_beq_eq_true hb) this
  ·rfl
theorem a2V:∀{r:List (Option Nat)} {H:Hp},(∀ i j n:Nat,r[i]? =some (some n)->r[j]? =some (some n)->i=j)->V5 r H=true
 |[],H,_=>by cases H<;>rfl
 |x::r,[],_=>by cases x<;>rfl
 |none::r,k::H,h=>a2V (r:=r) fun i j n h1 h2=>by have:=h (i+1) (j+1) n (by simpa using h1) (by simpa using h2);omega
 |some n::r,k::H,h=>by
  unfold V5
  rw [a2V (r:=r) (H:=H) fun i j n h1 h2=>by have:=h (i+1) (j+1) n (by simpa using h1) (by simpa using h2);omega]
  rw [aD9 (r:=r) (n:=n) (fun j hj=>by have:=h 0 (j+1) n rfl (by simpa using hj);omega)]
  cases k.mode<;>rfl
theorem a7S {n:Nat} {H:Hp}:V5 (idR n) H=true:=a2V fun i j n h1 h2=>by rw [b1v h1,b1v h2]
theorem a5t {ρ:List (Option Nat)} {H:Hp}:∀{r:List (Option Nat)} {H':Hp},r.length=H'.length->(∀ (i:Nat) (k':Blk),H'[i]? =some k'->∃(j:Nat) (k:Blk),r[i]? =some (some j)∧H[j]? =some k∧a1f ρ H k k')->a35 ρ H r H'
 |[],[],_,_=>trivial
 |[],_::_,h,_=>by simp at h
 |_::_,[],h,_=>by simp at h
 |x::r,k'::H',hl,h=>by
  obtain ⟨j,k,h1,h2,h3⟩:=h 0 k' rfl
  simp at h1
  subst h1
  refine ⟨?_,a5t (by simpa using hl) fun i k1 hk=>by simpa using h (i+1) k1 (by simpa using hk)⟩
  simp only [h2]
  exact h3
theorem an2 {n:Nat} {H:Hp}:∀{l:List C},(∀ c ∈ l,match c with|.t _=>True|.ptr id _ _=>id<n|.own id _ _ _=>id<n|.fn _ _=>False)->a9m (idR n) H l l
 |[],_=>trivial
 |c::r,h=>by
  refine ⟨?_,an2 fun c hc=>h c (by simp [hc])⟩
  have h0:=h c (by simp)
  cases c with
  |t x=>exact X7 x
  |ptr id r o=>exact ⟨j4 h0,rfl,rfl⟩
  |own id lo len app=>exact ⟨j4 h0,rfl,rfl,fun h=>h⟩
  |fn f caps=>exact h0.elim
def okB (n:Nat) (k:Blk):Prop:=∀r ∈ k.rows,∀c ∈ r,match c with|.t _=>True|.ptr id _ _=>id<n|.own id _ _ _=>id<n|.fn _ _=>False
theorem E1 {n:Nat} {k:Blk} {rows:List (List T)} (h:k.rows=toC rows):okB n k:=by
 intro r hr c hc
 rw [h] at hr
 obtain ⟨r0,_,rfl⟩:=lbx.1 hr
 obtain ⟨t,_,rfl⟩:=lbx.1 hc
 trivial
theorem ar8 {n:Nat} {H:Hp}:∀{l:List (List C)},(∀ r ∈ l,∀c ∈ r,match c with|.t _=>True|.ptr id _ _=>id<n|.own id _ _ _=>id<n|.fn _ _=>False)->aa6 (idR n) H l l
 |[],_=>trivial
 |r::l,h=>⟨an2 (h r (by simp)),ar8 fun r hr=>h r (by simp [hr])⟩
theorem a2O {n:Nat} {H:Hp} {k:Blk} (h:okB n k):a1f (idR n) H k k:=⟨by unfold a2A;cases k.mode<;>simp,rfl,rfl,.inr (ar8 h)⟩
theorem b7R {n0 n:Nat} {env env':Env} {H H':Hp} (hn:H'.length=n) (h0:n0<=n) (hB:∀(i:Nat) (k':Blk),H'[i]? =some k'->∃k:Blk,H[i]? =some k∧a1f (idR n) H k k') (hE:a1F (idR n) H env env'):Ent n0 (idR n) env H env' H':=
 ⟨a5D h0,a7S,a5t (by rw [aC0,hn]) fun i k' hk=>by
   have hi:i<n:=by rw [← hn];exact (lbe.1 hk).1
   obtain ⟨k,h1,h2⟩:=hB i k' hk
   exact ⟨i,k,j4 hi,h1,h2⟩,hE⟩
theorem a4E {ρ:List (Option Nat)} {H:Hp}:∀{xs ys:List (List C)},xs.length=ys.length->(∀ (i:Nat) (x y:List C),xs[i]? =some x->ys[i]? =some y->a9m ρ H x y)->aa6 ρ H xs ys
 |[],[],_,_=>trivial
 |[],_::_,h,_=>by simp at h
 |_::_,[],h,_=>by simp at h
 |x::xs,y::ys,h,hh=>⟨hh 0 x y rfl rfl,a4E (by simpa using h) fun i a b ha hb=>hh (i+1) a b (by simpa using ha) (by simpa using hb)⟩
theorem b18 {β:Type} {n0 n:Nat} {env env':Env} {f:β->Blk} {M:List β} {b0 b0' bl bl':Blk} {T:Hp} (hn:M.length+2=n) (h0:n0<=n) (e0:b0=b0') (ok0:okB n b0') (hf:∀x,okB n (f x))
 (hl:a1f (idR n) (b0::(M.map f++bl::T)) bl bl') (hE:a1F (idR n) (b0::(M.map f++bl::T)) env env'):Ent n0 (idR n) env (b0::(M.map f++bl::T)) env' (b0'::(M.map f++[bl'])):=by
 refine b7R (by simp;omega) h0 (fun i k' hk=>?_) hE
 cases i with
 |zero=>simp at hk;subst hk;exact ⟨b0,rfl,by rw [e0];exact a2O ok0⟩
 |succ i=>
  rw [List.getElem?_cons_succ] at hk ⊢
  by_cases hi:i<M.length
  ·rw [lbb (by simpa using hi)] at hk ⊢
   refine ⟨k',hk,a2O ?_⟩
   obtain ⟨x,_,rfl⟩:=lbx.1 (lbm hk)
   exact hf x
  ·rw [lbc (by simpa using hi)] at hk ⊢
   have:i=M.length:=by
    have:=(lbe.1 hk).1
    simp at this;omega
   subst this
   simp at hk ⊢
   subst hk
   exact hl
theorem b6C {n:Nat} {H:Hp} {k k':Blk} (e:k=k') (h:okB n k'):a1f (idR n) H k k':=by subst e;exact a2O h
theorem X5 {n0 n:Nat} {env env':Env} {H H':Hp} (hn:H'.length=n) (h0:n0<=n) (hok:∀k ∈ H',okB n k) (hH:∀i,i<n->H[i]? =H'[i]?) (hE:a1F (idR n) H env env'):Ent n0 (idR n) env H env' H':=
 ⟨a5D h0,a7S,a5t (by rw [aC0,hn]) fun i k' hk=>by
   have hi:i<n:=by rw [← hn];exact (lbe.1 hk).1
   exact ⟨i,k',j4 hi,by rw [hH i hi];exact hk,a2O (hok k' (lbm hk))⟩,hE⟩
theorem a6c {n0 n:Nat} {env env':Env} {H' T:Hp} (hn:H'.length=n) (h0:n0<=n) (hok:∀k ∈ H',okB n k) (hE:a1F (idR n) (H'++T) env env'):Ent n0 (idR n) env (H'++T) env' H':=
 X5 hn h0 hok (fun i hi=>by rw [lbb (by omega)]) hE
theorem a5B {n0 n:Nat} {r s:S} {H H':Hp} (hn:H'.length=n) (h0:n0<=n) (hok:∀k ∈ H',okB n k) (hH:∀i,i<n->H[i]? =H'[i]?) (hE:ak9 (idR n) H r s):Fin n0 r H s H':=
 ⟨idR n,a5D h0,a7S,a5t (by rw [aC0,hn]) fun i k' hk=>by
   have hi:i<n:=by rw [← hn];exact (lbe.1 hk).1
   exact ⟨i,k',j4 hi,by rw [hH i hi];exact hk,a2O (hok k' (lbm hk))⟩,hE⟩
inductive VX (H:Hp) (p:Nat->Prop):C->T->Prop
 |vc {x:C} {y:T} (h:VC H p x y):VX H p x y
 |own {id lo len:Nat} {app:Bool} {size:Nat} {k:Blk} {rows:List (List T)} (hp:p id) (hk:H[id]? =some k) (hd:¬k.mode.gone) (hs:k.size=size) (hl:rows.length=len)
   (hw:∀r ∈ rows,r.length=size) (g:Nat->Nat->C) (hc:∀i j c,at2 rows i j=some c->at2 k.rows (lo+i) j=some (g i j))
   (hx:∀i j c,at2 rows i j=some c->VX H p (g i j) c):VX H p (.own id lo len app) (.sl size .any rows)
theorem VX.rt {H:Hp} {p:Nat->Prop} {w:World} {ι:Io} {M M':Ms} (hH:j8 w ι M H) (hM:∀b,M' b->M b) (hp:∀id k b cap size,p id->H[id]? =some k->¬k.mode.gone->ι id=some (.blk b cap size)->¬M' b)
 {x:C} {y:T} (h:VX H p x y):∀{v:Value},RC w ι M x v->RT w M' y v:=by
 induction h with
 |vc h=>intro v hr;exact VC.rt hH hM hp _ _ _ h hr
 |@own id lo len app size k rows hpi hk hd hs hl hw g hc hx ih=>
  intro v hr
  cases hr with
  |@own _ _ _ _ b cap sz A cap' hi q1 q2 q3 q4 q5=>
   subst hl
   have hbr:=hH.blk id k hk (fun e=>hd (by rw [e];trivial)) _ hi
   obtain ⟨r1,r2,r3,r4,r5,cur,r6,r7,r8⟩:=hbr
   have hnm:=hp id k b cap sz hpi hk hd hi
   have hse:sz=size:=by rw [← hs,r1]
   subst hse
   have hat:∀(i j:Nat) (c:T),at2 rows i j=some c->∃u,cur[(lo+i)*sz+j]? =some u∧RT w M' c u:=fun i j c hij=>by
    obtain ⟨u,t1,t2⟩:=r8 _ _ _ (hc i j c hij)
    exact ⟨u,t1,ih i j c hij t2⟩
   refine .sl (b:=b) (off:=lo*sz) (fun i j=>cur.getD ((lo+i)*sz+j) undef) hw q3 q4 (by intro h;cases h) (by intro h;cases h) (fun hne=>q2 (List.length_pos_iff.2 hne)) ?_ ?_
   ·intro i j c hc'
    obtain ⟨u,s1,s2⟩:=hat i j c hc'
    refine ⟨?_,hnm⟩
    have e:lo*sz+(i*sz+j)=(lo+i)*sz+j:=by rw [Nat.add_mul,Nat.add_assoc]
    simp only [World.cell?]
    rw [r6,e]
    simp [s1]
   ·intro i j c hc'
    obtain ⟨u,s1,s2⟩:=hat i j c hc'
    have:cur.getD ((lo+i)*sz+j) undef=u:=by simp [s1]
    rw [this];exact s2
  |nil hi=>
   have hr0:rows=[]:=lbF hl
   subst hr0
   exact .sl (b:=0) (off:=0) (fun _ _=>undef) (by simp) (by simp) (by unfold maxLen;omega) (by simp) (by simp) (by simp) (by simp [at2]) (by simp [at2])
def VXS (H:Hp) (p:Nat->Prop) (s s':S):Prop:=
 (∃ x y,s=.c x∧s'=.c (.t y)∧VX H p x y)∨VS H p s s'
def a8u (H:Hp) (p:Nat->Prop):List S->List S->Prop
 |[],[]=>True
 |s::r,s'::r'=>VXS H p s s'∧a8u H p r r'
 |_,_=>False
theorem a8u.get {H:Hp} {p:Nat->Prop}:∀{l l':List S},a8u H p l l'->l.length=l'.length∧∀(j:Nat) (s':S),l'[j]? =some s'->∃s,l[j]? =some s∧VXS H p s s'
 |[],[],_=>⟨rfl,by simp⟩
 |s::r,s'::r',h=>by
  obtain ⟨h1,h2⟩:=a8u.get h.2
  refine ⟨by simp [h1],fun j t ht=>?_⟩
  cases j with
  |zero=>simp at ht;subst ht;exact ⟨s,rfl,h.1⟩
  |succ j=>simpa using h2 j t (by simpa using ht)
 |[],_::_,h=>h.elim
 |_::_,[],h=>h.elim
theorem a2f {P:Program} {g:FuncId} {args args':List S} {H:Hp} {r:S} (h:b7 P g args' [] r []) (ha:a8u H (fun _=>True) args args') (hr:r.flat=true):Q6 P g args H r []:=by
 refine ⟨h.1,fun w ι M vals hl hv hH hM hf=>?_⟩
 obtain ⟨hlen,hget⟩:=a8u.get ha
 have:=h.2 w (fun _=>none) (fun _=>False) vals (by omega) (fun j s hj=>by
  obtain ⟨x,hx,hs⟩:=hget j s hj
  have hr:=hv j x hx
  rcases hs with ⟨x',y,rfl,rfl,hvx⟩|hs
  ·cases hr with
   |c hr=>exact .c (.t (hvx.rt hH (fun _ h=>h.elim) (fun _ _ _ _ _ _ _ _ _ h=>h) hr))
  ·exact hs.rs hH (fun _ h=>h.elim) (fun _ _ _ _ _ _ _ _ _ h=>h) hr)
  .none (fun _ h=>h.elim) (fun _ _=>rfl)
 refine Calls.mono this ?_
 rintro e w' ⟨v,rfl,ι',M',h1,h2,h3,h4,h5⟩
 exact ⟨v,rfl,I0.of_none (h1.flat hr) ⟨h5.os,h5.tape,h5.output,h5.size,fun b hb=>h5.keep b hb (by rintro ⟨id,k,_,_,hk,_⟩;simp at hk)⟩⟩
theorem a3y {n i:Nat} (h:i<n):(List.range n).getD i 0=i:=by simp [h]
mutual
theorem a9P {n:Nat}:∀c:C,okC n c=true->a09 (List.range n) c=c
 |.t x,_=>by simp [a09]
 |.ptr id r o,h=>by simp only [a09];rw [a3y (by simpa [okC] using h)]
 |.own id lo len app,h=>by simp only [a09];rw [a3y (by simpa [okC] using h)]
 |.fn f caps,h=>by simp only [a09];rw [a3g caps (by simpa [okC] using h)]
theorem a3g {n:Nat}:∀l:List C,okL n l=true->a2I (List.range n) l=l
 |[],_=>by simp [a2I]
 |c::r,h=>by
  simp only [okL,lbM] at h
  simp only [a2I]
  rw [a9P c h.1,a3g r h.2]
end
theorem aY2 {n:Nat} {s:S} (h:okS n s=true):a7o (List.range n) s=s:=by
 cases s with
 |junk=>rfl
 |c x=>simp only [a7o];rw [a9P x h]
 |agg cs=>simp only [a7o];rw [a3g cs h]
 |tup ss=>simp [okS] at h
theorem aT4 {n:Nat}:∀{l:List C},(∀ c ∈ l,match c with|.t _=>True|.ptr id _ _=>id<n|.own id _ _ _=>id<n|.fn _ _=>False)->okL n l=true
 |[],_=>by simp [okL]
 |c::r,h=>by
  simp only [okL,lbM]
  refine ⟨?_,aT4 fun c hc=>h c (by simp [hc])⟩
  have h0:=h c (by simp)
  cases c with
  |t x=>simp [okC]
  |ptr id r o=>simp only [okC];exact Nat.blt_eq ▸ h0
  |own id lo len app=>simp only [okC];exact Nat.blt_eq ▸ h0
  |fn f caps=>exact h0.elim
theorem a9Q {n:Nat} {k:Blk} (h:okB n k):aw7 (List.range n) k k:=by
 refine ⟨rfl,rfl,rfl,rfl,?_⟩
 unfold a9q
 rw [lbp (g:=id) fun r hr=>a3g r (aT4 (h r hr))]
 simp
theorem aC5 {σ:List Nat} {l:List C} (h:l.all C.isT=true):a2I σ l=l:=by
 rw [M5]
 conv=>rhs;rw [← List.map_id l]
 exact lbp fun c hc=>ae2 (lbv.1 h c hc)
theorem a2p {P:Program} {g:FuncId} {args:List S} {Hs Hs':Hp} {r:S} {n:Nat} (T:Hp) (h:b7 P g args Hs r Hs') (hn:Hs.length=n) (hn':Hs'.length=n) (hok:args.all (okS n)=true)
 (hin:∀k ∈ Hs,k.mode=.live∧k.app=false∧okB n k) (hout:∀k ∈ Hs',k.mode≠.old∧okB n k) (hr:b1e r=true) (hr':r.isT=true):b7 P g args (Hs++T) r (Hs'++T):=by
 have e0:Hs'.length - Hs.length=0:=by omega
 have ex:∀m,a3T (List.range n) m (Hs'.length - Hs.length)=List.range n:=fun m=>by rw [e0];simp [a3T]
 have hargs:args=args.map (a7o (List.range n)):=by
  conv=>lhs;rw [← List.map_id args]
  exact lbp fun s hs=>(aY2 (lbv.1 hok s hs)).symm
 refine N8 (List.range n) h hargs (by simpa using hok) (by simp [hn]) List.nodup_range ?_ (fun k hk=>(hout k hk).1) (by omega) hr ?_ (by simp;omega) ?_ ?_
 ·intro i k hk
  have hi:i<n:=by rw [← hn];exact (lbe.1 hk).1
  obtain ⟨h1,h2,h3⟩:=hin k (lbm hk)
  refine ⟨h1,h2,fun r hr=>by rw [List.length_range];exact aT4 (h3 r hr),k,?_,a9Q h3⟩
  rw [a3y hi,lbb (by omega),hk]
 ·rw [ex]
  cases r with
  |junk=>rfl
  |c x=>simp only [a7o];rw [ae2 hr']
  |agg cs=>
   simp only [a7o]
   rw [aC5 hr']
  |tup ss=>
   simp only [a7o]
   congr 1
   conv=>lhs;rw [← List.map_id ss]
   refine lbp fun s hs=>?_
   have h1:=lbv.1 hr' s hs
   cases s with
   |junk=>rfl
   |c x=>simp only [id];rw [ae2 h1]
   |agg cs=>
    simp only [id]
    rw [aC5 h1]
   |tup ss=>rfl
 ·intro i k hk
  have hi:i<n:=by rw [← hn'];exact (lbe.1 hk).1
  obtain ⟨h1,h3⟩:=hout k (lbm hk)
  rw [ex]
  exact ⟨k,by rw [a3y hi,lbb (by omega),hk],a9Q h3⟩
 ·intro j hj hnj
  have:n<=j:=by
   rcases Nat.lt_or_ge j n with h|h
   ·exact absurd (lbB.2 h) hnj
   ·exact h
  rw [lbc (by omega),lbc (by omega),hn,hn']
end
def T6 (w:Nat) (g:Nat->Rat):List Fr:=(List.range w).map fun m=>fz (g m)
def a1e (N w:Nat) (f:Nat->Nat->Rat):List (List Fr):=(List.range N).map fun p=>T6 w (f p)
theorem a4K (w:Nat) (g:Nat->Rat):(T6 w g).length=w:=by simp [T6]
theorem j0 (N w:Nat) (f:Nat->Nat->Rat):(a1e N w f).length=N:=by simp [a1e]
theorem a4L {w:Nat} {g:Nat->Rat} {m:Nat} (h:m<w):(T6 w g)[m]? =some (fz (g m)):=by simp [T6,h]
theorem T8 {N w:Nat} {f:Nat->Nat->Rat} {p:Nat} (h:p<N):(a1e N w f)[p]? =some (T6 w (f p)):=by simp [a1e,h]
theorem aJ4 {w:Nat} {g:Nat->Rat} {m:Nat} {v:Rat} (h:m<w):(T6 w g).set m (fz v)=T6 w (fun j=>if j=m then v else g j):=by
 apply List.ext_getElem?
 intro j
 by_cases hj:j<w
 ·rw [a4L hj,lbg,a4K]
  by_cases hjm:m=j
  ·subst hjm;simp [h]
  ·rw [if_neg hjm,a4L hj,if_neg (by omega)]
 ·rw [lbd (by simp [a4K];omega),lbd (by simp [a4K];omega)]
theorem aM8 {N w:Nat} {f:Nat->Nat->Rat} {p:Nat} {g:Nat->Rat} (h:p<N):(a1e N w f).set p (T6 w g)=a1e N w (fun q=>if q=p then g else f q):=by
 apply List.ext_getElem?
 intro j
 by_cases hj:j<N
 ·rw [T8 hj,lbg,j0]
  by_cases hjm:p=j
  ·subst hjm;simp [h]
  ·rw [if_neg hjm,T8 hj,if_neg (by omega)]
 ·rw [lbd (by simp [j0];omega),lbd (by simp [j0];omega)]
def a3r (N w:Nat):List (List C):=(List.range N).map fun j=>[C.own (j+1) 0 w true]
abbrev b2i (N w:Nat):Blk:={ mode:=.live,elem:=36,size:=1,rows:=a3r N w,box:=false }
abbrev a6e (l:List Fr):Blk:={ mode:=.live,elem:=35,size:=4,rows:=toC (l.map j5),box:=false }
abbrev a4S (N w:Nat) (f:Nat->Nat->Rat):Hp:=b2i N w::(a1e N w f).map a6e
theorem b37 {N w i:Nat} {K:List C->Prop} (h:i<N) (k:K [C.own (i+1) 0 w true]):∃row,(a3r N w)[i]? =some row∧K row:=⟨_,by simp [a3r,h],k⟩
theorem b77 {N w:Nat}:okB (N+1) (b2i N w):=by
 intro r hr c hc
 obtain ⟨j,hj,rfl⟩:=lbx.1 hr
 simp at hc
 subst hc
 have:=lbB.1 hj
 simp only
 omega
theorem a1c {N w:Nat} {f:Nat->Nat->Rat}:∀k ∈ a4S N w f,okB (N+1) k:=by
 intro k hk
 rcases lbA.1 hk with rfl|hk
 ·exact b77
 ·obtain ⟨l,_,rfl⟩:=lbx.1 hk
  exact E1 rfl
theorem O6 {N w:Nat} {f:Nat->Nat->Rat}:(a4S N w f).length=N+1:=by simp [j0]
theorem a6u {N w i s:Nat} {K:List C->Prop} (e:i=s) (h:s<N) (k:K [C.own (s+1) 0 w true]):∃row,(a3r N w)[i]? =some row∧K row:=by subst e;exact b37 h k
theorem ab4 {row:List Fr} {i n:Nat} {y:Fr} (h:n=i):q9 (a6e row) ((toC (row.map j5)).set n (frC y))=a6e (row.set i y):=by
 subst h
 unfold q9
 simp [toC,List.map_set,j5]
def a0H (k:Nat) (f g:Nat->Nat->Rat):Nat->Nat->Rat:=fun p m=>if m<k then g p m else f p m
theorem b0Q (N w:Nat) (f:Nat->Nat->Rat) (x:j6) (l:List Rat) (hl:l.length=w) (hw:w<=1000) (s d:Nat) (hs:x.src=s) (hd:x.dst=d) (hsN:s<N) (hdN:d<N) (hsd:s≠d) (hB:∀x ∈ l,rl x<=200) (hF:∀p m,rl (f p m)<=50000):
 b7 Tryz.prog 78 [.c (.own 0 0 N true),aj1 x,j7 (l.map fz)] (a4S N w f) (.tup []) (a4S N w (A8 x (fun m=>l.getD m 0) f)):=by
 have m1:((l.map fz).map j5).length=l.length:=by simp
 (refine ac Tryz.func78 ?_;(conv=>whnf);repeat ((first|refine b0x ?_|refine zy ?_);conv=>whnf))
 repeat' (first|refine zz ?_|refine b0x ?_|refine P1 (j0 _ _ _) ?_|refine o8 ?_|refine zd ?_ ?_<;>intro h<;>try omega|refine zy ?_|fail)<;>conv=>whnf
 let v:Nat->Rat:=fun m=>l.getD m 0
 have e0:a0H 0 f (A8 x v f)=f:=by funext p m;simp [a0H]
 refine f8 c7 (fun k=>([S.c (C.own 0 0 N true),J,J,J,S.c (C.t (T.ptr x.row)),J,J,J,j7 (l.map fz),a8 .i64 l.length,a8 .i64 k]++Jn 45,a4S N w (a0H k f (A8 x v f)))) l.length (fun _=>True) (idR (N+1)) trivial
  ?_ ?_
 ·refine X5 O6 ?_ a1c (fun i _=>by rw [e0]) ?_
  ·simp [j0]
  ·exact ⟨⟨j4 (by omega),rfl,rfl,fun h=>h⟩,i5 rfl,i5 rfl,c6 (by simp),rfl,trivial⟩
 intro k hk _
 by_cases hlt:k<l.length
 ·obtain ⟨y,hy⟩:∃y,l[k]? =some y:=⟨_,lbf hlt⟩
  have hv:v k=y:=by show l.getD k 0=y;rw [lbl,hy];rfl
  have by1:=hB y (lbm hy)
  have gs:(a1e N w (a0H k f (A8 x v f)))[s]? =some (T6 w (a0H k f (A8 x v f) s)):=T8 hsN
  have gd:(a1e N w (a0H k f (A8 x v f)))[d]? =some (T6 w (a0H k f (A8 x v f) d)):=T8 hdN
  have fs:a0H k f (A8 x v f) s k=f s k:=by simp [a0H]
  have fd:a0H k f (A8 x v f) d k=f d k:=by simp [a0H]
  have hs2:x.src.toNat=s:=by omega
  have hd2:x.dst.toNat=d:=by omega
  have b1:=hF s k
  have b2:=hF d k
  have sb:=aA1 (f s k) y (by omega) (by omega)
  have ad:=a0y (f d k) y (by omega) (by omega)
  have eS:0+x.src.toNat=s:=by omega
  have eD:0+x.dst.toNat=d:=by omega
  have xs:(T6 w (a0H k f (A8 x v f) s))[0+(k:Int).toNat]? =some (fz (f s k)):=by rw [Nat.zero_add,show (k:Int).toNat=k by omega,a4L (by omega),fs]
  have xd:(T6 w (a0H k f (A8 x v f) d))[0+(k:Int).toNat]? =some (fz (f d k)):=by rw [Nat.zero_add,show (k:Int).toNat=k by omega,a4L (by omega),fd]
  have gd2:∀r,((a1e N w (a0H k f (A8 x v f))).set s r)[d]? =some (T6 w (a0H k f (A8 x v f) d)):=fun r=>by rw [List.getElem?_set_ne hsd];exact gd
  have lS:s<(a1e N w (a0H k f (A8 x v f))).length:=by rw [j0];exact hsN
  have lD:∀r,d<((a1e N w (a0H k f (A8 x v f))).set s r).length:=fun r=>by rw [List.length_set,j0];exact hdN
  have lE:∀r,((a1e N w (a0H k f (A8 x v f))).set s r).length=N:=fun r=>by rw [List.length_set,j0]
  have eK:0+(k:Int).toNat=k:=by omega
  conv=>whnf
  repeat' (first|refine zx ?_|refine qp sb ?_|refine qp ad ?_|refine qp 18 ?_|refine d7 (I1 l hy) ?_|refine P1 (j0 _ _ _) ?_|refine o8 ?_|refine R8 ?_|refine w6 (j0 _ _ _) ?_|refine w6 (lE _) ?_|refine R6 (j0 _ _ _) ?_|refine a6u eS hsN ?_|refine a6u eD hdN ?_|refine R5 gs ?_|refine R5 (gd2 _) ?_|refine p4 xs ?_|refine p4 xd ?_|refine a5d lS (ab4 (y:=fz (f s k - y)) eK) ?_|refine a5d (lD _) (ab4 (y:=fz (f d k+y)) eK) ?_|refine bl0 [18] ?_|refine zd ?_ ?_<;>intro h<;>try omega|fail)<;>conv=>whnf
  ·have eM:((a1e N w (a0H k f (A8 x v f))).set s ((T6 w (a0H k f (A8 x v f) s)).set k (fz (f s k - y)))).set d ((T6 w (a0H k f (A8 x v f) d)).set k (fz (f d k+y)))=a1e N w (a0H (k+1) f (A8 x v f)):=by
    rw [aJ4 (by omega),aJ4 (by omega),aM8 hsN,aM8 hdN]
    congr 1
    funext p m
    have c1:(x.src=(p:Int))↔p=s:=by omega
    have c2:(x.dst=(p:Int))↔p=d:=by omega
    have cF:A8 x v f p m=if p=s then f p m - v m else if p=d then f p m+v m else f p m:=by unfold A8;simp only [c1,c2]
    have hds:d≠s:=fun h=>hsd h.symm
    simp only [a0H] at *
    by_cases hp:p=d
    ·subst hp
     rw [if_neg hds,if_pos rfl] at cF
     rw [if_pos rfl,cF]
     rcases Nat.lt_trichotomy m k with h|h|h
     ·rw [if_neg (by omega),if_pos h,if_pos (by omega)]
     ·subst h;rw [if_pos rfl,if_pos (by omega),hv]
     ·rw [if_neg (by omega),if_neg (by omega),if_neg (by omega)]
    ·rw [if_neg hp]
     by_cases hp2:p=s
     ·subst hp2
      rw [if_pos rfl] at cF
      rw [if_pos rfl,cF]
      rcases Nat.lt_trichotomy m k with h|h|h
      ·rw [if_neg (by omega),if_pos h,if_pos (by omega)]
      ·subst h;rw [if_pos rfl,if_pos (by omega),hv]
      ·rw [if_neg (by omega),if_neg (by omega),if_neg (by omega)]
     ·rw [if_neg hp2,if_neg hp] at cF
      rw [if_neg hp2,cF]
      simp only [ite_self]
      unfold a0H
      rw [cF];simp
   rw [eM]
   refine ⟨hlt,trivial,idR (N+1),a6c O6 ?_ a1c ?_⟩
   ·simp [j0]
   ·exact ⟨⟨j4 (by omega),rfl,rfl,fun h=>h⟩,rfl,rfl,rfl,rfl,trivial⟩
  all_goals omega
 ·have hke:k=l.length:=by omega
  subst hke
  have eM:a1e N w (a0H l.length f (A8 x v f))=a1e N w (A8 x v f):=by
   unfold a1e T6
   refine lbp fun p _=>lbp fun m hm=>?_
   have:=lbB.1 hm
   simp only [a0H]
   rw [if_pos (by omega)]
  conv=>whnf
  repeat' (first|refine zx ?_|refine o8 ?_|refine zd ?_ ?_<;>intro h<;>try omega|fail)<;>conv=>whnf
  all_goals try omega
  ·refine a5B (H':=a4S N w (A8 x v f)) (n:=N+1) O6 ?_ a1c ?_ ?_
   ·simp [j0]
   ·intro i _;rw [eM]
   ·exact trivial
theorem b89 (e:Ev) (x:j6) (N w:Nat) (f:Nat->Nat->Rat) (l:List Rat) (hl:l.length=w) (hw:w<=1000) (s:Nat) (hs:x.src=s) (hsN:s<N) (p:G2) (hp:e.places[s]? =some p) (hB:∀x ∈ l,rl x<=200) (hF:∀p m,rl (f p m)<=50000):
 b7 Tryz.prog 74 [Z9 (a1e N w f),evS e,aj1 x,j7 (l.map fz)] [] (a8 .i64 (a2v e f x l)) []:=by
 have m1:((l.map fz).map j5).length=l.length:=by simp
 have hk:F2 e x.src=p.kind:=by rw [hs];exact at7 hp
 have hsn:x.src.toNat=s:=by omega
 unfold a2v
 rw [hk,hsn]
 by_cases hb:p.kind=0
 ·rw [if_pos hb]
  (refine ac Tryz.func74 ?_;(conv=>whnf);repeat ((first|refine b0x ?_|refine zy ?_);conv=>whnf))
  repeat' (first|refine zx ?_|refine G8 (k:=s) hs hp ?_|refine zd ?_ ?_<;>intro h<;>try omega|fail)<;>conv=>whnf
  all_goals first
   |omega
   |exact v8 rfl
 ·rw [if_neg hb]
  (refine ac Tryz.func74 ?_;(conv=>whnf);repeat ((first|refine b0x ?_|refine zy ?_);conv=>whnf))
  repeat' (first|refine zx ?_|refine G8 (k:=s) hs hp ?_|refine zd ?_ ?_<;>intro h<;>try omega|fail)<;>conv=>whnf
  refine u9 c7 (σ:=Nat × Bool) (fun|(k,rest)=>([Z9 (a1e N w f),J,J,J,J,J,S.c (C.t (T.ptr x.row)),J,J,f7 rest]++Jn 10++[j7 (l.map fz),a8 .i64 l.length,a8 .i64 k]++Jn 24,[])) (fun σ=>σ.1<=l.length∧a0g (f s) x.all (l.drop σ.1) σ.1 σ.2=a0g (f s) x.all l 0 false) (fun σ=>l.length - σ.1) (0,false) []
   ⟨Nat.zero_le _,rfl⟩ ⟨rfl,rfl,trivial,⟨i5 rfl,i5 rfl,rfl,i5 rfl,c6 (by simp),rfl,trivial⟩⟩ ?_
  rintro ⟨k,rest⟩ ⟨hk,hI⟩
  have hk:k<=l.length:=hk
  have hI:a0g (f s) x.all (l.drop k) k rest=a0g (f s) x.all l 0 false:=hI
  by_cases hlt:k<l.length
  ·obtain ⟨y,hy⟩:∃y,l[k]? =some y:=⟨_,lbf hlt⟩
   have hd:l.drop k=y::l.drop (k+1):=by
    rw [List.drop_eq_getElem_cons hlt]
    rw [lbf hlt] at hy
    injection hy with hy
    rw [hy]
   have by1:=hB y (lbm hy)
   have b1:=hF s k
   have c:=G6 y (f s k) (by omega) (by omega)
   have cl:=a5j (x:=y) (y:=f s k)
   have cg:=a1Q (x:=y) (y:=f s k)
   have cr:=aL3 y (f s k)
   have gs:(a1e N w f)[s]? =some (T6 w (f s)):=T8 hsN
   have gk:(T6 w (f s))[k]? =some (fz (f s k)):=a4L (by omega)
   rw [hd] at hI
   have hI:(if f s k<y then 4 else a0g (f s) x.all (l.drop (k+1)) (k+1) (rest || decide (y<f s k)))=a0g (f s) x.all l 0 false:=hI
   conv=>whnf
   repeat' (first|refine zx ?_|refine qp c ?_|refine d7 (I1 l hy) ?_|refine G8 (k:=s) hs gs ?_|refine d7 gk ?_|refine zd ?_ ?_<;>intro h<;>try omega|fail)<;>conv=>whnf
   ·have h1:f s k<y:=cg.1 (by omega)
    exact v8 (by rw [← hI,if_pos h1])
   ·have h1:y<f s k:=cl.1 (by omega)
    have h2:¬f s k<y:=fun h=>by have:=cg.2 h;omega
    rw [if_neg h2,show (rest || decide (y<f s k))=true by simp [h1]] at hI
    exact ⟨[],(k+1,true),⟨rfl,rfl,trivial,⟨rfl,rfl,rfl,rfl,rfl,c6 (by omega),trivial⟩⟩,⟨hlt,hI⟩,by show l.length - (k+1)<l.length - k;omega⟩
   ·have h1:¬y<f s k:=fun h=>by have:=cl.2 h;omega
    have h2:¬f s k<y:=fun h=>by have:=cg.2 h;omega
    rw [if_neg h2,show (rest || decide (y<f s k))=rest by simp [h1]] at hI
    exact ⟨[],(k+1,rest),⟨rfl,rfl,trivial,⟨rfl,rfl,rfl,rfl,rfl,c6 (by omega),trivial⟩⟩,⟨hlt,hI⟩,by show l.length - (k+1)<l.length - k;omega⟩
  ·have hke:k=l.length:=by omega
   subst hke
   rw [lbo (lbQ _)] at hI
   have hI:(if rest && x.all then 7 else 0)=a0g (f s) x.all l 0 false:=hI
   cases rest<;>cases hxa:x.all<;>rw [hxa] at hI<;>
   ·conv=>whnf
    repeat' (first|refine zx ?_|refine zd ?_ ?_<;>intro h<;>try omega|fail)<;>conv=>whnf
    all_goals first
     |omega
     |(exfalso;simp_all;done)
     |exact v8 (by rw [← hI];rfl)
def M8 (k N w:Nat):List (List C):=(List.range N).map fun j=>if j<k then [C.own (j+1) 0 w true] else [C.t (.sl 0 .nil [])]
abbrev a5K (k N w:Nat):Blk:={ mode:=.live,elem:=36,size:=1,rows:=M8 k N w,box:=false }
theorem Z3 (k N w:Nat):(M8 k N w).length=N:=by simp [M8]
theorem Y3 {k N w j:Nat} (h:j<N):(M8 k N w)[j]? =some (if j<k then [C.own (j+1) 0 w true] else [C.t (.sl 0 .nil [])]):=by simp [M8,h]
theorem av4 {k N w:Nat} (h:k<N):(M8 k N w).set k [C.own (k+1) 0 w true]=M8 (k+1) N w:=by
 apply List.ext_getElem?
 intro j
 by_cases hj:j<N
 ·rw [Y3 hj,lbg,Z3]
  by_cases hjk:k=j
  ·subst hjk;simp [h]
  ·rw [if_neg hjk,Y3 hj]
   have:(j<k+1)↔(j<k):=by omega
   simp only [this]
 ·rw [lbd (by simp [Z3];omega),lbd (by simp [Z3];omega)]
theorem az7 (N w:Nat):M8 N N w=a3r N w:=by
 unfold M8 a3r
 refine lbp fun j hj=>?_
 rw [if_pos (lbB.1 hj)]
theorem ak8 (N w:Nat):M8 0 N w=List.replicate N [C.t (.sl 0 .nil [])]:=by
 apply List.ext_getElem?
 intro j
 by_cases hj:j<N
 ·rw [Y3 hj];simp [hj]
 ·rw [lbd (by simp [Z3];omega),lbd (by simp;omega)]
abbrev zR:Rat:=((0:Int):Rat)
def a0a (m w:Nat):List Fr:=(List.range w).map fun j=>if j<m then fz zR else I3
theorem a30 (m w:Nat):(a0a m w).length=w:=by simp [a0a]
theorem a4X {m w j:Nat} (h:j<w):(a0a m w)[j]? =some (if j<m then fz zR else I3):=by simp [a0a,h]
theorem b1T {m w:Nat} (h:m<w):(a0a m w).set m (fz zR)=a0a (m+1) w:=by
 apply List.ext_getElem?
 intro j
 by_cases hj:j<w
 ·rw [a4X hj,lbg,a30]
  by_cases hjk:m=j
  ·subst hjk;simp [h]
  ·rw [if_neg hjk,a4X hj]
   have:(j<m+1)↔(j<m):=by omega
   simp only [this]
 ·rw [lbd (by simp [a30];omega),lbd (by simp [a30];omega)]
theorem b1C (w:Nat):a0a w w=T6 w (fun _=>zR):=by
 unfold a0a T6
 refine lbp fun j hj=>?_
 rw [if_pos (lbB.1 hj)]
theorem b02 (w:Nat):a0a 0 w=List.replicate w I3:=by
 apply List.ext_getElem?
 intro j
 by_cases hj:j<w
 ·rw [a4X hj];simp [hj]
 ·rw [lbd (by simp [a30];omega),lbd (by simp;omega)]
abbrev aa5 (k w:Nat):List (List Fr):=List.replicate k (T6 w fun _=>zR)
theorem b25 (N w:Nat):aa5 N w=a1e N w (fun _ _=>zR):=by
 apply List.ext_getElem?
 intro j
 by_cases hj:j<N
 ·rw [T8 hj];simp [hj]
 ·rw [lbd (by simp;omega),lbd (by simp [j0];omega)]
theorem a2Y (k w:Nat):(aa5 k w).length=k:=by simp
abbrev aF3 (k N w:Nat):Hp:=a5K k N w::(aa5 k w).map a6e
theorem ah2 {k N w:Nat} (n:Nat) (h:k+1<=n):okB n (a5K k N w):=by
 intro r hr c hc
 obtain ⟨j,hj,rfl⟩:=lbx.1 hr
 by_cases hjk:j<k
 ·rw [if_pos hjk] at hc;simp at hc;subst hc;show j+1<n;omega
 ·rw [if_neg hjk] at hc;simp at hc;subst hc;trivial
theorem aM6 {k N w:Nat}:∀b ∈ aF3 k N w,okB (k+1) b:=by
 intro b hb
 rcases lbA.1 hb with rfl|hb
 ·exact ah2 _ (lbQ _)
 ·obtain ⟨l,_,rfl⟩:=lbx.1 hb
  exact E1 rfl
theorem b1I {k N w:Nat}:(aF3 k N w).length=k+1:=by simp
theorem b3N (e:Ev) (N w:Nat) (hN:e.places.length=N) (hw:e.mats=w) (hN1:N<=1000) (hw1:w<=1000):
 b7 Tryz.prog 72 [evS e] [] (.c (.own 0 0 N true)) (a4S N w fun _ _=>zR):=by
 have m1:(e.places.map G2.row).length=N:=by simp [hN]
 have i0:=D2 0 (by decide) (by decide)
 have hwn:e.mats.toNat=w:=by omega
 (refine ac Tryz.func72 ?_;(conv=>whnf);repeat ((first|refine b0x ?_|refine zy ?_);conv=>whnf))
 repeat' (first|refine zx ?_|refine a5S (by omega) (by omega) (by omega) (by decide) ?_|refine zd ?_ ?_<;>intro h<;>try omega|fail)<;>conv=>whnf
 refine f8 c7 (fun k=>([J,S.c (C.t (T.ptr (evT e))),J,S.c (C.own 0 0 N true),J,J,J,J,J,J,J,a8 .i64 N,a8 .i64 k]++Jn 26,aF3 k N w)) N (fun _=>True) (idR 1) trivial ?_ ?_
 ·refine X5 rfl (by simp) aM6 (fun i hi=>?_) ?_
  ·obtain rfl:i=0:=by omega
   rw [show aF3 0 N w=[a5K 0 N w] from rfl]
   unfold a5K
   rw [ak8]
   simp [J8,m1]
   exact .inr rfl
  ·exact ⟨i5 rfl,⟨rfl,rfl,by omega,fun h=>h⟩,c6 (by omega),rfl,trivial⟩
 intro k hk _
 by_cases hlt:k<N
 ·conv=>whnf
  have gn:(a5K k N w).rows[0+(k:Int).toNat]? =some [C.t (.sl 0 .nil [])]:=by
   show (M8 k N w)[0+(k:Int).toNat]? =_
   rw [Nat.zero_add,show (k:Int).toNat=k by omega,Y3 hlt,if_neg (by omega)]
  have gn2:∀c,((a5K k N w).rows.set (0+(k:Int).toNat) c)[0+(k:Int).toNat]? =some c:=fun c=>by
   rw [List.getElem?_set_self]
   show _<(M8 k N w).length
   rw [Z3];omega
  repeat' (first|refine zx ?_|refine a5S (by omega) (by omega) (by omega) (by decide) ?_|refine P1 (a2Y _ _) ?_|refine o8 ?_|refine R8 ?_|refine ⟨_,gn,?_⟩|refine ⟨_,gn2 _,?_⟩|refine w6 (a2Y _ _) ?_|refine zd ?_ ?_<;>intro h<;>try omega|fail)<;>conv=>whnf
  refine f8 c7 (fun m=>([J,S.c (C.t (T.ptr (evT e))),J,S.c (C.own 0 0 N true),a8 .i64 k,J,J,J,J,J,J,a8 .i64 N,a8 .i64 k]++Jn 12++[a8 .i64 w,a8 .i64 m]++Jn 12,a5K (k+1) N w::((aa5 k w).map a6e++[a6e (a0a m w)]))) w (fun _=>True) (idR (k+2)) trivial ?_ ?_
  ·refine b18 (by simp) (by simp) ?_ (ah2 _ (by omega)) (fun _=>E1 rfl) ?_ ?_
   ·unfold q9 a5K
    rw [Nat.zero_add,show (k:Int).toNat=k by omega,hwn]
    simp only
    rw [show k+(0+1)=k+1 by omega,av4 hlt]
   ·refine ⟨rfl,rfl,rfl,.inr (a4E ?_ ?_)⟩
    ·simp [J8,toC,a30,hwn]
    ·intro i x y hx hy
     simp only [J8,lbk] at hx
     split at hx
     ·rename_i hi
      injection hx with hx
      subst hx
      have hy:(toC ((a0a 0 w).map j5))[i]? =some y:=hy
      rw [b02] at hy
      simp only [toC,List.map_replicate,lbk] at hy
      split at hy
      ·injection hy with hy
       subst hy
       exact ⟨rfl,rfl,rfl,rfl,trivial⟩
      ·cases hy
     ·cases hx
   ·exact ⟨rfl,⟨j4 (by omega),rfl,rfl,fun h=>h⟩,rfl,rfl,rfl,c6 (by omega),rfl,trivial⟩
  intro m hm _
  by_cases hmt:m<w
  ·have gk:(a5K (k+1) N w).rows[0+(k:Int).toNat]? =some [C.own (k+1) 0 w true]:=by
    show (M8 (k+1) N w)[0+(k:Int).toNat]? =_
    rw [Nat.zero_add,show (k:Int).toNat=k by omega,Y3 hlt,if_pos (by omega)]
   obtain ⟨pf,hpf⟩:∃pf,(a0a m w)[m]? =some pf:=⟨_,a4X hmt⟩
   have gp:(a0a m w)[0+(m:Int).toNat]? =some pf:=by rw [Nat.zero_add,show (m:Int).toNat=m by omega];exact hpf
   have eM:0+(m:Int).toNat=m:=by omega
   conv=>whnf
   repeat' (first|refine zx ?_|refine qp i0 ?_|refine P1 (a2Y _ _) ?_|refine o8 ?_|refine R8 ?_|refine ⟨_,gk,?_⟩|refine w6 (a2Y _ _) ?_|refine p4 gp ?_|refine R6 (a2Y _ _) ?_|refine zd ?_ ?_<;>intro h<;>try omega|fail)<;>conv=>whnf
   refine ⟨hmt,trivial,idR (k+2),b18 (by simp) (by simp) rfl (ah2 _ (by omega)) (fun _=>E1 rfl) ?_ ?_⟩
   ·have e:=ab4 (row:=a0a m w) (y:=fz zR) eM
    rw [b1T hmt] at e
    have e2:q9 (a6e (a0a m w)) ((a6e (a0a m w)).rows.set (0+(m:Int).toNat) (frC (fz zR)))=a6e (a0a (m+1) w):=e
    exact b6C e2 (E1 rfl)
   ·exact ⟨rfl,⟨j4 (by omega),rfl,rfl,fun h=>h⟩,rfl,rfl,rfl,rfl,rfl,trivial⟩
  ·have hme:m=w:=by omega
   subst hme
   have eH:(aa5 k m).map a6e++[a6e (a0a m m)]=(aa5 (k+1) m).map a6e:=by
    rw [b1C];simp [aa5,List.replicate_succ']
   conv=>whnf
   repeat' (first|refine zx ?_|refine o8 ?_|refine zd ?_ ?_<;>intro h<;>try omega|fail)<;>conv=>whnf
   all_goals try omega
   refine ⟨hlt,trivial,idR (k+2),X5 (H':=aF3 (k+1) N m) b1I (by simp) aM6 (fun i _=>by rw [eH]) ?_⟩
   exact ⟨rfl,⟨j4 (by omega),rfl,rfl,fun h=>h⟩,rfl,rfl,trivial⟩
 ·have hke:k=N:=by omega
  subst hke
  conv=>whnf
  repeat' (first|refine zx ?_|refine o8 ?_|refine zd ?_ ?_<;>intro h<;>try omega|fail)<;>conv=>whnf
  all_goals try omega
  refine a5B (H':=a4S k w fun _ _=>zR) (n:=k+1) O6 (by simp) a1c (fun i _=>?_) ?_
  ·unfold a4S
   rw [← b25]
   unfold a5K b2i
   rw [az7]
  ·exact ⟨j4 (by omega),rfl,rfl,fun h=>h⟩
end Go.Proofs.YtaejgdbahjjncaaGreat
