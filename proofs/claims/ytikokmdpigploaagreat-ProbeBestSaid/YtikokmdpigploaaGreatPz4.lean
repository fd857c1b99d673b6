/- Part 4. -/
import Derived.Test.YtikokmdpigploaaGreatPz3
namespace Go.Proofs.YtikokmdpigploaaGreat
set_option linter.unusedVariables false
set_option linter.unusedSimpArgs false
set_option maxRecDepth 100000
set_option maxHeartbeats 8000000
open Go.RowKit
open St1 St2 St3 St4 St5 St6 St7 St8 StA StB
theorem a7q {x y:Rat}:Z9 x y<0↔x<y:=by unfold Z9;split<;>(try split)<;>simp_all
theorem b6e (x y:Rat):-1<=Z9 x y∧Z9 x y<=1:=by unfold Z9;split<;>(try split)<;>omega
theorem b9k (x y:Rat) (lx:rl x<=60000) (ly:rl y<=60000):b9 Tryz.prog 258 [frS (fz x),frS (fz y)] [] (.tup [frS (fz (aT0 x y)),b7 .i64 0]) []:=by
 have e:b9 Tryz.prog 313 [frS (fz x),frS (fz y),b7 .i64 1] [] (.tup [frS (fz (aT0 x y)),b7 .i64 0]) []:=by
  have r1:=K8 x (by omega)
  have r2:=K8 y (by omega)
  have x1:=V7 x
  have x2:=V9 x
  have y1:=V7 y
  have y2:=V9 y
  have c:=a0N x y lx ly
  have hr:=b6e x y
  have s1:=ae3 x.num (by omega)
  have s2:=ae3 x.den (by omega)
  have s3:=ae3 y.num (by omega)
  have s4:=ae3 y.den (by omega)
  (refine ac Tryz.func313 ?_;(conv=>whnf);repeat (refine zy ?_;conv=>whnf))
  repeat' (first|refine zx ?_|refine qp r1 ?_|refine qp r2 ?_|refine qp c ?_|refine qp s1 ?_|refine qp s2 ?_|refine qp s3 ?_|refine qp s4 ?_|refine zd ?_ ?_<;>intro h<;>try omega|fail)<;>conv=>whnf
  ·have h:Z9 x y<0:=by omega
   refine a2F (f:=fz y) ?_
   unfold aT0;rw [if_pos (a7q.1 h)]
  ·have h:¬Z9 x y<0:=by omega
   refine a2F (f:=fz x) ?_
   unfold aT0;rw [if_neg (fun h'=>h (a7q.2 h'))]
 (refine ac Tryz.func258 ?_;(conv=>whnf);repeat (refine zy ?_;conv=>whnf))
 repeat' (first|refine zx ?_|refine qp e ?_|refine zd ?_ ?_<;>intro h<;>try omega|fail)<;>conv=>whnf
 all_goals exact a2F rfl
theorem a4D (n m:Int):b9 Tryz.prog 312 [b7 .i64 n,b7 .i64 m] [] (j0 (btw n 0 m)) []:=by
 (refine ac Tryz.func312 ?_;(conv=>whnf);repeat (refine zy ?_;conv=>whnf))
 repeat' (first|refine zx ?_|refine zd ?_ ?_<;>intro h<;>try omega|fail)<;>conv=>whnf
 all_goals (refine i4 ?_;unfold btw;simp;omega)
abbrev b4Z (c:P5):S:=.agg (c.row.map .t)
theorem b39 (n:Int):btw n 0 29=idx n 30:=b7I n 30
theorem aL6 (c:P5):b9 Tryz.prog 331 [b4Z c] [] (j0 (a0I c)) []:=by
 have w1:=a4D c.scale 29
 have w2:=a4D c.grams 1099511627776
 have w3:=a4D c.permille 1000
 have w4:=a4D c.drift 10000000
 rw [b39] at w1
 unfold a0I
 cases h1:idx c.scale 30<;>cases h2:btw c.grams 0 1099511627776<;>cases h3:btw c.permille 0 1000<;>cases h4:btw c.drift 0 10000000<;>rw [h1] at w1<;>rw [h2] at w2<;>rw [h3] at w3<;>rw [h4] at w4<;>
 ·(refine ac Tryz.func331 ?_;(conv=>whnf);repeat (refine zy ?_;conv=>whnf))
  repeat' (first|refine zx ?_|refine qp w1 ?_|refine qp w2 ?_|refine qp w3 ?_|refine qp w4 ?_|refine zd ?_ ?_<;>intro h<;>try omega|fail)<;>conv=>whnf
  all_goals (refine i4 ?_;simp;try omega)
theorem aL2 (c:P5) (day:Int):b9 Tryz.prog 309 [b4Z c,b7 .i64 day] [] (j0 (a0k c day)) []:=by
 have w1:=aL6 c
 unfold a0k
 cases h1:a0I c<;>rw [h1] at w1<;>
 ·(refine ac Tryz.func309 ?_;(conv=>whnf);repeat (refine zy ?_;conv=>whnf))
  repeat' (first|refine zx ?_|refine qp w1 ?_|refine zd ?_ ?_<;>intro h<;>try omega|fail)<;>conv=>whnf
  all_goals (refine i4 ?_;simp [btw];try omega)
theorem b6U {cs:List P5} {k:Nat} {c:P5} (h:cs[k]? =some c):aB4 cs k=c.since:=by unfold aB4;rw [h];rfl
abbrev b8m (n:Int):T:=.ptr [ti n]
theorem aO6 {a b:Bool} {ρ:List (Option Nat)} {H:Hp} (h:a=b):a5T ρ H (j0 a) (j0 b):=by subst h;exact rfl
def ad5 (o:Option Nat):Nat:=o.getD 0
theorem b9l (cs:List P5) (scale day:Int) (hl:cs.length<=1000000):
 b9 Tryz.prog 255 [.c (.t (a2I cs)),b7 .i64 scale,b7 .i64 day] [] (.tup [b7 .i64 (ad5 (T4 cs scale day cs.length)),j0 (T4 cs scale day cs.length).isSome]) []:=by
 have l1:(cs.map P5.row).length=cs.length:=by simp
 (refine ac Tryz.func255 ?_;(conv=>whnf);repeat (refine zy ?_;conv=>whnf))
 repeat' (first|refine zx ?_|refine zd ?_ ?_<;>intro h<;>try omega|fail)<;>conv=>whnf
 refine j7 g6 (fun k=>([S.c (C.t (a2I cs)),b7 .i64 scale,b7 .i64 day,J,J,J,J,J,b7 .i64 (ad5 (T4 cs scale day k)),j0 (T4 cs scale day k).isSome,J,J,S.c (C.t (a2I cs)),b7 .i64 cs.length,b7 .i64 k]++Jn 31,[])) cs.length (fun _=>True) [] trivial
  ⟨rfl,rfl,trivial,⟨k9 rfl,rfl,rfl,rfl,rfl,k9 rfl,e8 (by simp),rfl,trivial⟩⟩ ?_
 intro k hk _
 by_cases hlt:k<cs.length
 ·obtain ⟨c,hc⟩:∃c,cs[k]? =some c:=⟨_,lbf hlt⟩
  have cv:=aL2 c day
  have hst:T4 cs scale day (k+1)=if decide (c.scale=scale) && a0k c day && a8Q cs (T4 cs scale day k) c then some k else T4 cs scale day k:=by
   conv=>lhs;unfold T4
   rw [hc]
  cases hcv:a0k c day with
  |false=>
   rw [hcv] at cv hst
   simp only [Bool.and_false,Bool.false_and,Bool.false_eq_true,if_false] at hst
   rw [← hst]
   conv=>whnf
   repeat' (first|refine zx ?_|refine qp cv ?_|refine i3 hc ?_|refine zd ?_ ?_<;>intro h<;>try omega|fail)<;>conv=>whnf
   all_goals first
    |omega
    |exact ⟨hlt,trivial,[],rfl,rfl,trivial,⟨rfl,rfl,rfl,rfl,rfl,rfl,rfl,rfl,trivial⟩⟩
  |true=>
   rw [hcv] at cv hst
   cases hf:T4 cs scale day k with
   |none=>
    rw [hf] at hst
    conv=>whnf
    repeat' (first|refine zx ?_|refine qp cv ?_|refine i3 hc ?_|refine zd ?_ ?_<;>intro h<;>try omega|fail)<;>conv=>whnf
    ·exact ⟨hlt,trivial,[],rfl,rfl,trivial,⟨rfl,rfl,rfl,e8 (by rw [hst];simp [*,a8Q,ad5]),aO6 (by rw [hst];simp [*,a8Q]),rfl,rfl,rfl,trivial⟩⟩
    ·exact ⟨hlt,trivial,[],rfl,rfl,trivial,⟨rfl,rfl,rfl,e8 (by rw [hst];simp [*,a8Q,ad5]),aO6 (by rw [hst];simp [*,a8Q]),rfl,rfl,rfl,trivial⟩⟩
   |some b=>
    rw [hf] at hst
    obtain ⟨hb,cb,hcb,_⟩:=T6 hf
    have hsb:=b6U hcb
    conv=>whnf
    repeat' (first|refine zx ?_|refine qp cv ?_|refine i3 hc ?_|refine i3 hcb ?_|refine zd ?_ ?_<;>intro h<;>try omega|fail)<;>conv=>whnf
    all_goals first
     |exact ⟨hlt,trivial,[],rfl,rfl,trivial,⟨rfl,rfl,rfl,e8 (by rw [hst];simp [*,a8Q,ad5]),aO6 (by rw [hst];simp [*,a8Q]),rfl,rfl,rfl,trivial⟩⟩
     |(exfalso;simp_all;done)
 ·have hke:k=cs.length:=by omega
  subst hke
  conv=>whnf
  repeat' (first|refine zx ?_|refine zd ?_ ?_<;>intro h<;>try omega|fail)<;>conv=>whnf
  all_goals first
   |omega
   |exact s7 ⟨rfl,rfl,trivial⟩
theorem aB6 (r:I8) (scale day:Int):b9 Tryz.prog 311 (.agg (r.row.map .t)::[b8m scale,b8m day].map fun x=>.c (.t x)) [] (j0 (decide (r.scale=scale) && decide (r.since<=day))) []:=by
 (refine ac Tryz.func311 ?_;(conv=>whnf);repeat (refine zy ?_;conv=>whnf))
 repeat' (first|refine zx ?_|refine zd ?_ ?_<;>intro h<;>try omega|fail)<;>conv=>whnf
 all_goals (refine i4 ?_;simp [*];try omega)
abbrev ba2 (r:I8):S:=.agg (r.row.map .t)
def J8 {α:Type} (q:α->Bool):List α->Nat->Int
 |[],_=>-1
 |x::r,k=>if q x then k else J8 q r (k+1)
theorem a28 {α:Type} (q:α->Bool):∀(l:List α) (k:Nat),decide (0<=J8 q l k)=l.any q
 |[],k=>by simp [J8]
 |x::r,k=>by
  unfold J8
  rw [List.any_cons]
  cases h:q x with
  |true=>simp
  |false=>simpa using a28 q r (k+1)
theorem aW5 (rs:List I8) (hl:rs.length<=1000000) (g:FuncId) (caps:List T) (q:I8->Bool) (hg:∀r ∈ rs,b9 Tryz.prog g (ba2 r::caps.map fun x=>.c (.t x)) [] (j0 (q r)) []):
 b9 Tryz.prog 332 [.c (.t (T8 rs)),.c (.t (.fn (.func g) caps))] [] (b7 .i64 (J8 q rs 0)) []:=by
 have l1:(rs.map I8.row).length=rs.length:=by simp
 (refine ac Tryz.func332 ?_;(conv=>whnf);repeat (refine zy ?_;conv=>whnf))
 repeat' (first|refine zx ?_|refine zd ?_ ?_<;>intro h<;>try omega|fail)<;>conv=>whnf
 refine j7 g6 (fun k=>([S.c (C.t (T8 rs)),S.c (C.t (T.fn (.func g) caps)),J,J,J,J,J,b7 .i64 rs.length,b7 .i64 k]++Jn 10,[])) rs.length (fun k=>J8 q (rs.drop k) k=J8 q rs 0) [] rfl
  ⟨rfl,rfl,trivial,⟨k9 rfl,k9 rfl,e8 (by simp),rfl,trivial⟩⟩ ?_
 intro k hk hI
 by_cases hlt:k<rs.length
 ·obtain ⟨r,hr⟩:∃r,rs[k]? =some r:=⟨_,lbf hlt⟩
  have hd:rs.drop k=r::rs.drop (k+1):=by
   rw [List.drop_eq_getElem_cons hlt]
   rw [lbf hlt] at hr
   injection hr with hr
   rw [hr]
  have hgr:=hg r (lbm hr)
  have ha:(ba2 r::caps.map fun x=>S.c (C.t x)).all S.isT=true:=by simp [S.isT,C.isT,I8.row]
  rw [hd] at hI
  have hI:(if q r then (k:Int) else J8 q (rs.drop (k+1)) (k+1))=J8 q rs 0:=hI
  cases hq:q r with
  |true=>
   rw [hq] at hgr hI
   conv=>whnf
   repeat' (first|refine zx ?_|refine .inl ⟨_,_,E9 hgr ha rfl,?_⟩|refine i3 hr ?_|refine zd ?_ ?_<;>intro h<;>try omega|fail)<;>conv=>whnf
   all_goals first
    |omega
    |exact t6 hI
  |false=>
   rw [hq] at hgr hI
   conv=>whnf
   repeat' (first|refine zx ?_|refine .inl ⟨_,_,E9 hgr ha rfl,?_⟩|refine i3 hr ?_|refine zd ?_ ?_<;>intro h<;>try omega|fail)<;>conv=>whnf
   all_goals first
    |omega
    |exact ⟨hlt,by simpa using hI,[],rfl,rfl,trivial,⟨rfl,rfl,rfl,rfl,trivial⟩⟩
 ·have hke:k=rs.length:=by omega
  subst hke
  rw [lbo (lbQ _)] at hI
  conv=>whnf
  repeat' (first|refine zx ?_|refine zd ?_ ?_<;>intro h<;>try omega|fail)<;>conv=>whnf
  all_goals first
   |omega
   |exact t6 hI
theorem an4 (rs:List I8) (hl:rs.length<=1000000) (g:FuncId) (caps:List T) (q:I8->Bool) (hg:∀r ∈ rs,b9 Tryz.prog g (ba2 r::caps.map fun x=>.c (.t x)) [] (j0 (q r)) []):
 b9 Tryz.prog 310 [.c (.t (T8 rs)),.c (.t (.fn (.func g) caps))] [] (j0 (rs.any q)) []:=by
 have ix:=aW5 rs hl g caps q hg
 (refine ac Tryz.func310 ?_;(conv=>whnf);repeat (refine zy ?_;conv=>whnf))
 repeat' (first|refine zx ?_|refine qp ix ?_|refine zd ?_ ?_<;>intro h<;>try omega|fail)<;>conv=>whnf
 all_goals (refine i4 ?_;rw [← a28 q rs 0];simp;omega)
theorem aZ5 (rs:List I8) (hl:rs.length<=1000000) (scale day:Int):b9 Tryz.prog 256 [.c (.t (T8 rs)),b7 .i64 scale,b7 .i64 day] [] (j0 (a9Q rs scale day)) []:=by
 have ct:=an4 rs hl 311 [b8m scale,b8m day] _ (fun r _=>aB6 r scale day)
 (refine ac Tryz.func256 ?_;(conv=>whnf);repeat ((first|refine b0x ?_|refine zy ?_);conv=>whnf))
 repeat' (first|refine zx ?_|refine qp ct ?_|refine zd ?_ ?_<;>intro h<;>try omega|fail)<;>conv=>whnf
 all_goals (refine i4 ?_;symm;assumption)
theorem a6a {c:P5} {day:Int} (h:a0k c day=true):0<=c.since∧c.since<=day∧day<=c.till∧c.till<=100000∧0<=c.grams∧c.grams<=1099511627776∧0<=c.permille∧c.permille<=1000∧0<=c.drift∧c.drift<=10000000:=by
 unfold a0k a0I btw at h
 simp only [lbM,lbI] at h
 omega
abbrev a2A:Fr:=⟨⟨0,[]⟩,⟨0,[]⟩⟩
theorem ba6 {f f':Fr} {b b':Bool} {H1:Hp} (h:f=f') (h2:b=b'):Fin 0 (.tup [frS f,j0 b]) H1 (.tup [frS f',j0 b']) []:=by
 subst h h2;exact s7 ⟨⟨rfl,rfl,rfl,rfl,trivial⟩,rfl,trivial⟩
structure b8A (c:P5) (reading day:Int):Prop where
 p0:0<=c.permille*reading
 p1:c.permille*reading<=1000*1099511627776
 d0:0<=c.drift*(day - c.since)
 d1:c.drift*(day - c.since)<=10000000*100000
theorem b8A.of {c:P5} {reading day:Int} (h:a0k c day=true) (hr:btw reading 0 1099511627776=true):b8A c reading day:=by
 have hc:=a6a h
 rw [a1q] at hr
 exact ⟨lbZ (by omega) (by omega),Int.mul_le_mul (by omega) (by omega) (by omega) (by omega),lbZ (by omega) (by omega),Int.mul_le_mul (by omega) (by omega) (by omega) (by omega)⟩
theorem b4S {c:P5} {reading day:Int} (h:a0k c day=true) (hr:btw reading 0 1099511627776=true):rl (a6K c reading day)<=9:=by
 have i:=b8A.of h hr
 have hc:=a6a h
 obtain ⟨p0,p1,d0,d1⟩:=i
 unfold a6K
 have h1:=a2O (Rat.divInt (c.permille*reading) 1000) ((c.grams+c.drift*(day - c.since):Int):Rat)
 have h2:rl (Rat.divInt (c.permille*reading) 1000)<=4:=lbR (a0w (by decide)) (by have:=a18 (x:=c.permille*reading) (by omega) (by omega);have:=a18 (x:=1000) (by decide) (by decide);omega)
 have h3:rl ((c.grams+c.drift*(day - c.since):Int):Rat)<=4:=by rw [a17];have:=a18 (x:=c.grams+c.drift*(day - c.since)) (by omega) (by omega);omega
 omega
theorem b7c (c:P5) (reading day:Int) (h:a0k c day=true):b9 Tryz.prog 257 [b4Z c,b7 .i64 reading,b7 .i64 day] []
 (.tup [frS (if btw reading 0 1099511627776 then fz (a6K c reading day) else a2A),j0 (btw reading 0 1099511627776)]) []:=by
 have cv:=aL2 c day
 have wi:=a4D reading 1099511627776
 rw [h] at cv
 have hc:=a6a h
 cases hr:btw reading 0 1099511627776 with
 |false=>
  rw [hr] at wi
  (refine ac Tryz.func257 ?_;(conv=>whnf);repeat (refine zy ?_;conv=>whnf))
  repeat' (first|refine zx ?_|refine qp cv ?_|refine qp wi ?_|refine zd ?_ ?_<;>intro h<;>try omega|fail)<;>conv=>whnf
  all_goals first
   |(exfalso;simp_all;done)
   |exact s7 ⟨⟨rfl,rfl,rfl,rfl,trivial⟩,rfl,trivial⟩
 |true=>
  rw [hr] at wi
  obtain ⟨p0,p1,d0,d1⟩:=b8A.of h hr
  rw [a1q] at hr
  have fo:=bj1 (c.permille*reading) 1000 (by decide) (by omega) (by omega) (by decide) (by decide)
  have fi:=I3 (c.grams+c.drift*(day - c.since)) (by omega) (by omega)
  have h2:rl (Rat.divInt (c.permille*reading) 1000)<=4:=lbR (a0w (by decide)) (by have:=a18 (x:=c.permille*reading) (by omega) (by omega);have:=a18 (x:=1000) (by decide) (by decide);omega)
  have h3:rl ((c.grams+c.drift*(day - c.since):Int):Rat)<=4:=by rw [a17];have:=a18 (x:=c.grams+c.drift*(day - c.since)) (by omega) (by omega);omega
  have ad:=a5f (Rat.divInt (c.permille*reading) 1000) ((c.grams+c.drift*(day - c.since):Int):Rat) (by omega) (by omega)
  (refine ac Tryz.func257 ?_;(conv=>whnf);repeat (refine zy ?_;conv=>whnf))
  repeat' (first|refine zx ?_|refine qp cv ?_|refine qp wi ?_|refine qp fo ?_|refine qp fi ?_|refine qp ad ?_|refine qp 7 ?_|refine qp 15 ?_|refine bl0 [7] ?_|refine bl0 [15] ?_|refine zd ?_ ?_<;>intro h<;>try omega|fail)<;>conv=>whnf
  all_goals first
   |(exfalso;simp_all;done)
   |exact ba6 rfl rfl
abbrev ivL (o:Option (Rat × Rat)):List S:=match o with
 |some (lo,hi)=>[frS (fz lo),frS (fz hi),j0 true]
 |none=>[frS a2A,frS a2A,j0 false]
theorem b7F {x y:Rat} {n:Nat} (h1:rl x<=n) (h2:rl y<=n):rl (aT0 x y)<=n:=by unfold aT0;split<;>assumption
theorem aJ6 {cs:List P5} {rs:List I8} {scale reading day:Int} {lo hi:Rat} (h:Q3 cs rs scale reading day=some (lo,hi)):rl lo<=20∧rl hi<=20:=by
 unfold Q3 at h
 split at h
 ·cases h
 ·rename_i i hi
  obtain ⟨hb,c,hc,_,hcv⟩:=T6 hi
  have e:a2M cs i=c:=by unfold a2M;rw [hc];rfl
  rw [e] at h
  split at h
  ·cases h
  ·split at h
   ·rename_i hr
    injection h with h
    injection h with h1 h2
    have l1:=b4S hcv hr
    rw [a1q] at hr
    have l2:rl (reading:Rat)<=4:=by rw [a17];have:=a18 (x:=reading) (by omega) (by omega);omega
    have l3:=a2O (reading:Rat) (a6K c reading day)
    have l4:=aY7 (reading:Rat) (a6K c reading day)
    refine ⟨?_,by rw [← h2];omega⟩
    rw [← h1]
    exact b7F (by omega) (by rw [a6X];omega)
   ·cases h
theorem b0c (cs:List P5) (rs:List I8) (hl:cs.length<=1000000) (hl2:rs.length<=1000000) (scale reading day:Int):
 b9 Tryz.prog 184 [.c (.t (a2I cs)),.c (.t (T8 rs)),b7 .i64 scale,b7 .i64 reading,b7 .i64 day] [] (.tup (ivL (Q3 cs rs scale reading day))) []:=by
 have f:=b9l cs scale day hl
 have r:=aZ5 rs hl2 scale day
 unfold Q3
 cases hf:T4 cs scale day cs.length with
 |none=>
  rw [hf] at f
  (refine ac Tryz.func184 ?_;(conv=>whnf);repeat (refine zy ?_;conv=>whnf))
  repeat' (first|refine zx ?_|refine qp f ?_|refine qp r ?_|refine qp 1 ?_|refine qp 6 ?_|refine bl0 [1] ?_|refine bl0 [6] ?_|refine zd ?_ ?_<;>intro h<;>try omega|fail)<;>conv=>whnf
  all_goals first
   |(exfalso;simp_all;done)
   |exact s7 ⟨⟨rfl,rfl,rfl,rfl,trivial⟩,⟨rfl,rfl,rfl,rfl,trivial⟩,rfl,trivial⟩
 |some i=>
  rw [hf] at f
  obtain ⟨hb,c,hc,_,hcv⟩:=T6 hf
  have e:a2M cs i=c:=by unfold a2M;rw [hc];rfl
  have er:=b7c c reading day hcv
  simp only [e]
  cases hrec:a9Q rs scale day with
  |true=>
   rw [hrec] at r
   (refine ac Tryz.func184 ?_;(conv=>whnf);repeat (refine zy ?_;conv=>whnf))
   repeat' (first|refine zx ?_|refine qp f ?_|refine qp r ?_|refine qp 1 ?_|refine qp 6 ?_|refine bl0 [1] ?_|refine bl0 [6] ?_|refine zd ?_ ?_<;>intro h<;>try omega|fail)<;>conv=>whnf
   all_goals first
    |(exfalso;simp_all;done)
    |exact s7 ⟨⟨rfl,rfl,rfl,rfl,trivial⟩,⟨rfl,rfl,rfl,rfl,trivial⟩,rfl,trivial⟩
  |false=>
   rw [hrec] at r
   cases hr:btw reading 0 1099511627776 with
   |false=>
    rw [hr] at er
    (refine ac Tryz.func184 ?_;(conv=>whnf);repeat (refine zy ?_;conv=>whnf))
    repeat' (first|refine zx ?_|refine qp f ?_|refine qp r ?_|refine qp er ?_|refine qp 1 ?_|refine qp 9 ?_|refine i3 hc ?_|refine bl0 [1] ?_|refine bl0 [9] ?_|refine zd ?_ ?_<;>intro h<;>try omega|fail)<;>conv=>whnf
    all_goals first
     |exact s7 ⟨⟨rfl,rfl,rfl,rfl,trivial⟩,⟨rfl,rfl,rfl,rfl,trivial⟩,rfl,trivial⟩
     |(exfalso;simp_all;done)
   |true=>
    have l1:=b4S hcv hr
    rw [hr] at er
    rw [a1q] at hr
    have l2:rl (reading:Rat)<=4:=by rw [a17];have:=a18 (x:=reading) (by omega) (by omega);omega
    have fi:=I3 reading (by omega) (by omega)
    have f0:=I3 0 (by omega) (by omega)
    have sb:=b0b (reading:Rat) (a6K c reading day) (by omega) (by omega)
    have ad:=a5f (reading:Rat) (a6K c reading day) (by omega) (by omega)
    have l4:=aY7 (reading:Rat) (a6K c reading day)
    have mx:=b9k ((reading:Rat) - a6K c reading day) ((0:Int):Rat) (by omega) (by rw [a6X];omega)
    (refine ac Tryz.func184 ?_;(conv=>whnf);repeat (refine zy ?_;conv=>whnf))
    repeat' (first|refine zx ?_|refine qp f ?_|refine qp r ?_|refine qp er ?_|refine qp fi ?_|refine qp f0 ?_|refine qp sb ?_|refine qp ad ?_|refine qp mx ?_|refine qp 1 ?_|refine qp 9 ?_|refine qp 5 ?_|refine i3 hc ?_|refine bl0 [1] ?_|refine bl0 [9] ?_|refine bl0 [5] ?_|refine zd ?_ ?_<;>intro h<;>try omega|fail)<;>conv=>whnf
    all_goals first
     |exact s7 ⟨⟨rfl,rfl,rfl,rfl,trivial⟩,⟨rfl,rfl,rfl,rfl,trivial⟩,rfl,trivial⟩
     |(exfalso;simp_all;done)
def s9 (f:Fr):List T:=[ti f.p.sg,E1 f.p.dl,ti f.q.sg,E1 f.q.dl]
abbrev R0 (l:List Fr):T:=.sl 4 .any (l.map s9)
abbrev G3 (l:List Fr):S:=.c (.t (R0 l))
theorem aN8 (l:List Rat) {k:Nat} {x:Rat} (h:l[k]? =some x):(l.map fz)[k]? =some (fz x):=by rw [lba,h];rfl
theorem bi9 {f f':Fr} {H1:Hp} (h:f=f'):Fin 0 (frS f) H1 (frS f') []:=by subst h;exact s7 ⟨rfl,rfl,rfl,rfl,trivial⟩
abbrev frB (f:Fr):Blk:={ mode:=.live,elem:=86,size:=4,rows:=[frC f],box:=true }
theorem a9V (f:Fr):L8 [frC f]:=by
 intro r hr c hc
 simp at hr
 subst hr
 simp [frC] at hc
 rcases hc with rfl|rfl|rfl|rfl<;>rfl
theorem b18 {x:Rat}:sgR x<0↔x<0:=by unfold sgR;split<;>(try split)<;>simp_all
theorem b1O {x y:Rat}:Z9 x y<=0↔x<=y:=by
 unfold Z9
 split
 ·simp;grind
 ·split
  ·simp;grind
  ·simp;grind
theorem ag5 {x y:Rat}:Z9 x y > 0↔y<x:=by
 have:=b1O (x:=x) (y:=y)
 constructor
 ·intro h;have h2:¬x<=y:=fun h'=>by have:=this.2 h';omega
  grind
 ·intro h;have h2:¬Z9 x y<=0:=fun h'=>by have:=this.1 h';grind
  omega
def j8 (f:Nat->Rat):Nat->Rat
 |0=>((0:Int):Rat)
 |n+1=>j8 f n+f n
theorem a0Q:((0:Int):Rat)=0:=rfl
theorem i9 {f g:Nat->Rat}:∀{n:Nat},(∀ m,m<n->f m=g m)->j8 f n=j8 g n
 |0,_=>rfl
 |n+1,h=>by simp only [j8];rw [i9 fun m hm=>h m (by omega),h n (by omega)]
theorem getD_some {l:List Rat} {m:Nat} (h:m<l.length):l[m]? =some (l.getD m 0):=by rw [lbl,lbf h];rfl
theorem K0 {α:Type} {p:Nat->α->Bool} {l:List α}:∀{k:Nat} {x:Int},x ∈ m7 p k l↔∃i m,l[i]? =some m∧p (k+i) m=true∧x=((k+i:Nat):Int):=by
 induction l with
 |nil=>intro k x;simp [m7]
 |cons a r ih=>
  intro k x
  have step:x ∈ m7 p (k+1) r↔∃i m,(a::r)[i+1]? =some m∧p (k+(i+1)) m=true∧x=((k+(i+1):Nat):Int):=by
   rw [ih]
   constructor
   ·rintro ⟨i,m,h1,h2,h3⟩
    exact ⟨i,m,by simpa using h1,by rw [show k+(i+1)=k+1+i from by omega];exact h2,by rw [h3];omega⟩
   ·rintro ⟨i,m,h1,h2,h3⟩
    exact ⟨i,m,by simpa using h1,by rw [show k+1+i=k+(i+1) from by omega];exact h2,by rw [h3];omega⟩
  unfold m7
  by_cases hp:p k a=true
  ·rw [if_pos hp,lbA,step]
   constructor
   ·rintro (rfl|⟨i,m,h⟩)
    ·exact ⟨0,a,rfl,hp,rfl⟩
    ·exact ⟨i+1,m,h⟩
   ·rintro ⟨i,m,h1,h2,h3⟩
    cases i with
    |zero=>left;simpa using h3
    |succ i=>right;exact ⟨i,m,h1,h2,h3⟩
  ·rw [if_neg hp,step]
   constructor
   ·rintro ⟨i,m,h⟩
    exact ⟨i+1,m,h⟩
   ·rintro ⟨i,m,h1,h2,h3⟩
    cases i with
    |zero=>simp at h1;subst h1;exact absurd h2 hp
    |succ i=>exact ⟨i,m,h1,h2,h3⟩
theorem a9v {α:Type} (p:Nat->α->Bool) (l:List α):∀k,(m7 p k l).Pairwise (·<·):=by
 induction l with
 |nil=>intro k;simp [m7]
 |cons a r ih=>
  intro k
  unfold m7
  split
  ·rw [List.pairwise_cons]
   refine ⟨fun x hx=>?_,ih (k+1)⟩
   obtain ⟨i,m,_,_,rfl⟩:=K0.1 hx
   omega
  ·exact ih (k+1)
def Asc (l:List Int) (n:Int):Prop:=(∀ (i:Nat) (x:Int),l[i]? =some x->0<=x∧x<n)∧∀(i:Nat) (x y:Int),l[i]? =some x->l[i+1]? =some y->x<y
theorem Asc.of_sorted {l:List Int} {n:Int} (h1:l.Pairwise (·<·)) (h2:∀x ∈ l,0<=x∧x<n):Asc l n:=by
 refine ⟨fun i x hx=>h2 x (lbm hx),fun i x y hx hy=>?_⟩
 obtain ⟨hi,rfl⟩:=lbe.1 hx
 obtain ⟨hj,rfl⟩:=lbe.1 hy
 exact List.pairwise_iff_getElem.1 h1 i (i+1) hi hj (by omega)
theorem aB1 {α:Type} (p:Nat->α->Bool) (l:List α):Asc (m7 p 0 l) l.length:=by
 refine Asc.of_sorted (a9v p l 0) (fun x hx=>?_)
 obtain ⟨i,m,hm,_,rfl⟩:=K0.1 hx
 have:=(lbe.1 hm).1
 omega
theorem b7E (n:Int):Asc [] n:=⟨fun i x h=>by simp at h,fun i x y h=>by simp at h⟩
theorem ar9 (e:Ev) (hh mat lo hi:Int):Asc (Q2 e hh mat lo hi) e.moves.length:=by
 unfold Q2;split
 ·exact aB1 _ _
 ·exact b7E _
theorem b6E {e:Ev} {G:List (List Rat)} {k:Nat} {x:t4} (hx:e.moves[k]? =some x):stk e G (k+1)=ae8 x (hAt G k) (stk e G k):=by
 conv=>lhs;unfold stk
 rw [hx]
theorem b76 {e:Ev} {G:List (List Rat)} {k:Nat} (hx:e.moves[k]? =none):stk e G (k+1)=stk e G k:=by
 conv=>lhs;unfold stk
 rw [hx]
theorem aX2 {e:Ev} {x:t4} (h:R9 e x=true) (ha:x.all=true):B6 e x.src≠0:=by
 unfold R9 at h
 simp only [lbM,lbI] at h
 have:=h.1.1.2
 rw [ha] at this
 simpa using this
def O5 (e:Ev) (x:t4):Option (Rat × Rat):=if x.scale=-1 then none else Q3 e.certs e.recalls x.scale x.reading x.day
structure J9 where
 mv:Int
 kind:Int
 grams:Int
structure D6 where
 mv:Int
 kind:Int
structure g7 where
 ev:Ev
 finds:List J9
 cleans:List D6
def a0l (e:Ev) (mv kind:Int):Int:=if mv<0∨(e.moves.length:Int)<=mv then 4 else if kind<0∨8<=kind then 1 else 0
def J6 (e:Ev):List J9->Int
 |[]=>0
 |f::r=>if a0l e f.mv f.kind≠0 then a0l e f.mv f.kind else if f.grams<1∨1099511627776<f.grams then 3 else J6 e r
def N0 (e:Ev):List D6->Int
 |[]=>0
 |c::r=>if a0l e c.mv c.kind≠0 then a0l e c.mv c.kind else N0 e r
def n9 (t:g7):Int:=
 if J4 t.ev≠0 then J4 t.ev else if 20<t.finds.length∨50<t.cleans.length then 6
 else if J6 t.ev t.finds≠0 then J6 t.ev t.finds else N0 t.ev t.cleans
def j9 (l:List J9) (kind:Int) (i:Nat):List Int:=(l.filter fun f=>decide (f.kind=kind) && decide (f.mv=(i:Int))).map (·.grams)
def p8 (l:List D6) (kind:Int) (i:Nat):Nat:=(l.filter fun c=>decide (c.kind=kind) && decide (c.mv=(i:Int))).length
def col (z:List Rat):List (List Rat):=z.map fun v=>[v]
theorem b7v (z:List Rat) (k:Nat):hAt (col z) k 0=z.getD k 0:=by
 unfold hAt col
 cases h:z[k]?<;>simp [lbl,h]
def H8 (e:Ev) (z:List Rat) (k p:Nat):Rat:=stk e (col z) k p 0
def aM3 (iv:Option (Rat × Rat)) (v:Rat):Bool:=match iv with
 |none=>true
 |some (_,hi)=>decide (v<=hi)
def a0R (t:g7) (kind:Int) (i:Nat) (x:t4) (v:Rat):Int:=
 if aM3 (O5 t.ev x) v=false then 20 else if (j9 t.finds kind i).any (fun g=>decide (v<(g:Rat))) then 24
 else if 0<p8 t.cleans kind i∧v≠0 then 13 else 0
def as4 (e:Ev) (x:t4) (v f:Rat):Int:=if v<0 then 3 else if B6 e x.src≠0∧f<v then 4 else if x.all=true∧v≠f then 7 else 0
def a0u (t:g7) (kind:Int) (i:Nat) (x:t4) (v f:Rat):Int:=if as4 t.ev x v f≠0 then as4 t.ev x v f else a0R t kind i x v
def tAt (t:g7) (kind:Int) (z:List Rat) (i:Nat) (x:t4):Int:=a0u t kind i x (z.getD i 0) (H8 t.ev z i x.src.toNat)
def X9 (t:g7) (kind:Int) (z:List Rat):Nat->List t4->Int
 |_,[]=>0
 |k,x::r=>if tAt t kind z k x≠0 then tAt t kind z k x else X9 t kind z (k+1) r
def O9 (t:g7) (kind:Int) (z:List Fr):Int:=
 if n9 t≠0∨kind<0∨8<=kind then 1 else if z.length≠t.ev.moves.length then 2
 else if z.all N2 then X9 t kind (z.map fv) 0 t.ev.moves else 2
theorem a3v {t:g7} {kind:Int} {z:List Rat}:∀{ms:List t4} {k:Nat},X9 t kind z k ms=0↔∀j x,ms[j]? =some x->tAt t kind z (k+j) x=0
 |[],k=>by simp [X9]
 |y::r,k=>by
  unfold X9
  constructor
  ·intro h j x hx
   by_cases h0:tAt t kind z k y=0
   ·rw [if_neg (by simpa using h0)] at h
    cases j with
    |zero=>simp at hx;subst hx;exact h0
    |succ j=>rw [show k+(j+1)=k+1+j by omega];exact a3v.1 h j x (by simpa using hx)
   ·rw [if_pos h0] at h;exact absurd h h0
  ·intro h
   have h0:=h 0 y rfl
   rw [if_neg (by simpa using h0)]
   exact a3v.2 fun j x hx=>by rw [show k+1+j=k+(j+1) by omega];exact h (j+1) x (by simpa using hx)
structure b7i (e:Ev) (x:t4) (v f:Rat):Prop where
 pos:0<=v
 most:B6 e x.src≠0->v<=f
 all:x.all=true->v=f
theorem aj6 {e:Ev} {x:t4} {v f:Rat}:as4 e x v f=0↔b7i e x v f:=by
 unfold as4
 by_cases h1:v<0
 ·rw [if_pos h1];exact ⟨fun h=>(by cases h),fun h=>absurd h.pos (by grind)⟩
 ·rw [if_neg h1]
  by_cases h2:B6 e x.src≠0∧f<v
  ·rw [if_pos h2];exact ⟨fun h=>(by cases h),fun h=>absurd (h.most h2.1) (by grind)⟩
  ·rw [if_neg h2]
   by_cases h3:x.all=true∧v≠f
   ·rw [if_pos h3];exact ⟨fun h=>(by cases h),fun h=>absurd (h.all h3.1) h3.2⟩
   ·rw [if_neg h3]
    refine ⟨fun _=>⟨lb2.1 h1,fun h=>lb2.1 fun h'=>h2 ⟨h,h'⟩,fun h=>?_⟩,fun _=>rfl⟩
    by_cases h4:v=f
    ·exact h4
    ·exact absurd ⟨h,h4⟩ h3
structure aF8 (t:g7) (kind:Int) (i:Nat) (x:t4) (v:Rat):Prop where
 cap:aM3 (O5 t.ev x) v=true
 fin:∀g ∈ j9 t.finds kind i,(g:Rat)<=v
 cln:0<p8 t.cleans kind i->v=0
theorem aD9 {t:g7} {kind:Int} {i:Nat} {x:t4} {v:Rat}:a0R t kind i x v=0↔aF8 t kind i x v:=by
 unfold a0R
 by_cases h1:aM3 (O5 t.ev x) v=false
 ·rw [if_pos h1];exact ⟨fun h=>(by cases h),fun h=>(by rw [h.cap] at h1;cases h1)⟩
 ·rw [if_neg h1]
  by_cases h2:(j9 t.finds kind i).any (fun g=>decide (v<(g:Rat)))=true
  ·rw [if_pos h2]
   obtain ⟨g,hg,hv⟩:=lbw.1 h2
   exact ⟨fun h=>(by cases h),fun h=>absurd (h.fin g hg) (by have:=lbL hv;grind)⟩
  ·rw [if_neg h2]
   by_cases h3:0<p8 t.cleans kind i∧v≠0
   ·rw [if_pos h3];exact ⟨fun h=>(by cases h),fun h=>absurd (h.cln h3.1) h3.2⟩
   ·rw [if_neg h3]
    refine ⟨fun _=>⟨by simpa using h1,fun g hg=>lb2.1 fun h'=>h2 (lbw.2 ⟨g,hg,lbH h'⟩),fun h=>?_⟩,fun _=>rfl⟩
    by_cases h4:v=0
    ·exact h4
    ·exact absurd ⟨h,h4⟩ h3
theorem a96 {t:g7} {kind:Int} {i:Nat} {x:t4} {v f:Rat}:a0u t kind i x v f=0↔b7i t.ev x v f∧aF8 t kind i x v:=by
 unfold a0u
 by_cases h:as4 t.ev x v f≠0
 ·rw [if_pos h];exact ⟨fun h'=>absurd h' h,fun h'=>absurd (aj6.2 h'.1) h⟩
 ·rw [if_neg h,aD9]
  exact ⟨fun h'=>⟨aj6.1 (by simpa using h),h'⟩,fun h'=>h'.2⟩
structure a4j (t:g7) (kind:Int) (z:List Rat):Prop where
 tr:n9 t=0
 k0:0<=kind
 k1:kind<8
 len:z.length=t.ev.moves.length
 step:∀i x,t.ev.moves[i]? =some x->b7i t.ev x (z.getD i 0) (H8 t.ev z i x.src.toNat)∧aF8 t kind i x (z.getD i 0)
theorem aB5 (z:List Rat):(z.map fz).map fv=z:=by
 rw [List.map_map]
 conv=>rhs;rw [← List.map_id z]
 exact lbp fun x _=>bi4 x
theorem a5c {t:g7} {kind:Int} {z:List Fr}:O9 t kind z=0↔∃Z:List Rat,z=Z.map fz∧a4j t kind Z:=by
 unfold O9
 by_cases h1:n9 t≠0∨kind<0∨8<=kind
 ·rw [if_pos h1]
  refine ⟨fun h=>(by cases h),fun ⟨Z,_,h⟩=>?_⟩
  have:=h.tr;have:=h.k0;have:=h.k1
  omega
 rw [if_neg h1]
 by_cases h2:z.length≠t.ev.moves.length
 ·rw [if_pos h2]
  refine ⟨fun h=>(by cases h),fun ⟨Z,hz,h⟩=>?_⟩
  subst hz
  exact absurd (by rw [lbr];exact h.len) h2
 rw [if_neg h2]
 by_cases h3:z.all N2=true
 ·rw [if_pos h3]
  obtain ⟨Z,rfl⟩:=ak9 h3
  rw [aB5,a3v]
  constructor
  ·intro h
   refine ⟨Z,rfl,by omega,by omega,by omega,by simpa using h2,fun i x hx=>?_⟩
   have:=h i x hx
   rw [Nat.zero_add] at this
   exact a96.1 this
  ·rintro ⟨Y,hy,h⟩
   have e:Z=Y:=by rw [← aB5 Z,←aB5 Y,hy]
   subst e
   intro j x hx
   rw [Nat.zero_add]
   exact a96.2 (h.step j x hx)
 ·rw [if_neg h3]
  refine ⟨fun h=>(by cases h),fun ⟨Z,hz,h⟩=>?_⟩
  subst hz
  exact absurd (lbv.2 fun f hf=>by obtain ⟨x,_,rfl⟩:=lbx.1 hf;exact aa6 x) h3
theorem z6 {t:g7} (h:n9 t=0):J4 t.ev=0∧t.finds.length<=20∧t.cleans.length<=50∧J6 t.ev t.finds=0∧N0 t.ev t.cleans=0:=by
 unfold n9 at h
 by_cases h1:J4 t.ev≠0
 ·rw [if_pos h1] at h;exact absurd h h1
 rw [if_neg h1] at h
 by_cases h2:20<t.finds.length∨50<t.cleans.length
 ·rw [if_pos h2] at h;cases h
 rw [if_neg h2] at h
 by_cases h3:J6 t.ev t.finds≠0
 ·rw [if_pos h3] at h;exact absurd h h3
 rw [if_neg h3] at h
 exact ⟨by simpa using h1,by omega,by omega,by simpa using h3,h⟩
theorem a7V {t:g7} (h1:J4 t.ev=0) (h2:t.finds.length<=20) (h3:t.cleans.length<=50) (h4:J6 t.ev t.finds=0) (h5:N0 t.ev t.cleans=0):n9 t=0:=by
 unfold n9
 rw [if_neg (by simp [h1]),if_neg (by omega),if_neg (by simp [h4]),h5]
theorem S9 {e:Ev}:∀{l:List J9},J6 e l=0->∀f ∈ l,0<=f.mv∧f.mv<e.moves.length∧0<=f.kind∧f.kind<8∧1<=f.grams∧f.grams<=1099511627776
 |[],_,f,hf=>by cases hf
 |g::r,h,f,hf=>by
  unfold J6 at h
  by_cases h1:a0l e g.mv g.kind≠0
  ·rw [if_pos h1] at h;exact absurd h h1
  rw [if_neg h1] at h
  by_cases h2:g.grams<1∨1099511627776<g.grams
  ·rw [if_pos h2] at h;cases h
  rw [if_neg h2] at h
  rcases lbA.1 hf with rfl|hf
  ·unfold a0l at h1
   by_cases h3:f.mv<0∨(e.moves.length:Int)<=f.mv
   ·rw [if_pos h3] at h1;exact absurd (by decide) h1
   rw [if_neg h3] at h1
   by_cases h4:f.kind<0∨8<=f.kind
   ·rw [if_pos h4] at h1;exact absurd (by decide) h1
   omega
  ·exact S9 h f hf
def A7 (t:g7) (f:J9):g7:={ t with finds:=t.finds++[f] }
def A9 (t:g7) (c:D6):g7:={ t with cleans:=t.cleans++[c] }
theorem a1i (l:List J9) (f:J9) (kind:Int) (i:Nat):j9 (l++[f]) kind i=j9 l kind i++(if f.kind=kind∧f.mv=(i:Int) then [f.grams] else []):=by
 unfold j9
 rw [lb8,lbC]
 by_cases h:f.kind=kind∧f.mv=(i:Int)
 ·rw [if_pos h];simp [h.1,h.2]
 ·rw [if_neg h]
  have:(decide (f.kind=kind) && decide (f.mv=(i:Int)))=false:=by
   rw [← lbP];simp only [lbM,lbI];exact h
  simp [this]
theorem Q7 (l:List D6) (c:D6) (kind:Int) (i:Nat):p8 (l++[c]) kind i=p8 l kind i+(if c.kind=kind∧c.mv=(i:Int) then 1 else 0):=by
 unfold p8
 rw [lb8,lbq]
 by_cases h:c.kind=kind∧c.mv=(i:Int)
 ·rw [if_pos h];simp [h.1,h.2]
 ·rw [if_neg h]
  have:(decide (c.kind=kind) && decide (c.mv=(i:Int)))=false:=by
   rw [← lbP];simp only [lbM,lbI];exact h
  simp [this]
theorem b0z {t:g7} {f:J9} {kind:Int} {z:List Rat} (h0:n9 t=0) (h:a4j (A7 t f) kind z):a4j t kind z:=by
 refine ⟨h0,h.k0,h.k1,h.len,fun i x hx=>?_⟩
 obtain ⟨h1,h2⟩:=h.step i x hx
 refine ⟨h1,h2.cap,fun g hg=>h2.fin g ?_,h2.cln⟩
 show g ∈ j9 (t.finds++[f]) kind i
 rw [a1i];exact lbz.2 (.inl hg)
theorem aZ0 {t:g7} {c:D6} {kind:Int} {z:List Rat} (h0:n9 t=0) (h:a4j (A9 t c) kind z):a4j t kind z:=by
 refine ⟨h0,h.k0,h.k1,h.len,fun i x hx=>?_⟩
 obtain ⟨h1,h2⟩:=h.step i x hx
 refine ⟨h1,h2.cap,h2.fin,fun hg=>h2.cln ?_⟩
 show 0<p8 (t.cleans++[c]) kind i
 rw [Q7];omega
def a0U (t:g7):g7:={ t with finds:=[] }
theorem b3j {t:g7} (h:n9 t=0):n9 (a0U t)=0:=by
 obtain ⟨q1,q2,q3,q4,q5⟩:=z6 h
 exact a7V q1 (by simp [a0U]) q3 rfl q5
theorem a81 {e:Ev} {z:List Rat} {k:Nat} {x:t4} (hx:e.moves[k]? =some x) (p:Nat):H8 e z (k+1) p=if x.src=(p:Int) then H8 e z k p - z.getD k 0 else if x.dst=(p:Int) then H8 e z k p+z.getD k 0 else H8 e z k p:=by
 unfold H8
 rw [b6E hx]
 unfold ae8
 rw [b7v]
theorem b61 {e:Ev} {z:List Rat} {k:Nat} (hx:e.moves[k]? =none) (p:Nat):H8 e z (k+1) p=H8 e z k p:=by
 unfold H8
 rw [b76 hx]
theorem a36 {f:Nat->Rat}:∀{n:Nat},(∀ p,p<n->0<=f p)->0<=j8 f n
 |0,_=>lb1
 |n+1,h=>by
  have h1:=a36 (n:=n) fun p hp=>h p (by omega)
  have h2:=h n (by omega)
  simp only [j8];grind
structure H4 where
 terms:List (Int × Rat)
 kind:Int
 value:Rat
structure l9 where
 n:Int
 rows:List H4
def n7 (l:List (Int × Rat)) (z:List Rat):Rat:=l.foldl (fun a t=>a+t.2*z.getD t.1.toNat 0) ((0:Int):Rat)
theorem Q6 (l:List (Int × Rat)) (t:Int × Rat) (z:List Rat):n7 (l++[t]) z=n7 l z+t.2*z.getD t.1.toNat 0:=by unfold n7;rw [List.foldl_append];rfl
def k7:Int->Int->List (Int × Rat)->Bool
 |_,_,[]=>true
 |last,n,t::r=>decide (last<t.1) && decide (t.1<n) && decide (t.2≠0) && k7 t.1 n r
def B2 (n:Int) (w:H4):Bool:=k7 (-1) n w.terms && decide (0<=w.kind) && decide (w.kind<3)
def p5 (s:l9):Bool:=decide (0<=s.n) && decide (s.n<=1500) && decide (s.rows.length<=6000) && s.rows.all (B2 s.n)
def V4 (w:H4) (z:List Rat):Bool:=!((decide (n7 w.terms z<w.value) && decide (w.kind≠1)) || (decide (w.value<n7 w.terms z) && decide (w.kind≠0)))
def i6 (s:l9) (z:List Rat):Bool:=p5 s && decide ((z.length:Int)=s.n) && z.all (fun v=>decide (0<=v)) && s.rows.all (fun w=>V4 w z)
def t7 (e:Ev) (p:Int):Nat->List (Int × Rat)
 |0=>[]
 |k+1=>match e.moves[k]? with
  |none=>t7 e p k
  |some y=>if y.dst=p then t7 e p k++[((k:Int),((1:Int):Rat))] else if y.src=p then t7 e p k++[((k:Int),((-1:Int):Rat))] else t7 e p k
def C8 (e:Ev) (i:Nat) (x:t4):H4:=⟨t7 e x.src i++[((i:Int),((-1:Int):Rat))],if x.all then 2 else 0,((0:Int):Rat)⟩
def w7 (i:Nat) (kind:Int) (v:Rat):H4:=⟨[((i:Int),((1:Int):Rat))],kind,v⟩
def P1 (iv:Option (Rat × Rat)) (i:Nat):List H4:=match iv with
 |none=>[]
 |some (_,hi)=>[w7 i 1 hi]
def M6 (t:g7) (kind:Int) (i:Nat) (x:t4):List H4:=
 (if B6 t.ev x.src=0 then [] else [C8 t.ev i x])++P1 (O5 t.ev x) i++(j9 t.finds kind i).map (fun g:Int=>w7 i 0 (g:Rat))++List.replicate (p8 t.cleans kind i) (w7 i 2 ((0:Int):Rat))
def v8 (t:g7) (kind:Int):Nat->List H4
 |0=>[]
 |k+1=>match t.ev.moves[k]? with
  |none=>v8 t kind k
  |some x=>v8 t kind k++M6 t kind k x
def n8 (t:g7) (kind:Int):l9:=⟨t.ev.moves.length,v8 t kind t.ev.moves.length⟩
theorem ab9 {e:Ev} (h0:J4 e=0) (z:List Rat) (p:Nat):∀k,n7 (t7 e p k) z=H8 e z k p
 |0=>rfl
 |k+1=>by
  have ih:=ab9 h0 z p k
  unfold t7
  cases hx:e.moves[k]? with
  |none=>rw [b61 hx];exact ih
  |some y=>
   have hm:=K6 h0 (lbm hx)
   have hne:y.src≠y.dst:=by unfold R9 at hm;simp only [lbM,lbI] at hm;exact hm.1.1.1.1.1.2
   rw [a81 hx]
   simp only
   by_cases c1:y.dst=(p:Int)
   ·rw [if_pos c1,if_neg (by omega),if_pos c1,Q6,ih]
    simp only [lbX]
    have:((1:Int):Rat)=1:=rfl
    rw [this];grind
   ·rw [if_neg c1]
    by_cases c2:y.src=(p:Int)
    ·rw [if_pos c2,if_pos c2,Q6,ih]
     simp only [lbX]
     have:((-1:Int):Rat)=-1:=rfl
     rw [this];grind
    ·rw [if_neg c2,if_neg c2,if_neg c1];exact ih
theorem a3n {w:H4} {z:List Rat}:V4 w z=true↔(n7 w.terms z<w.value->w.kind=1)∧(w.value<n7 w.terms z->w.kind=0):=by
 unfold V4
 simp only [Bool.not_eq_true',Bool.or_eq_false_iff,lbO,lbK,Classical.not_not]
 constructor
 ·rintro ⟨h1,h2⟩
  exact ⟨fun h=>h1.resolve_left (fun h'=>h' h),fun h=>h2.resolve_left (fun h'=>h' h)⟩
 ·rintro ⟨h1,h2⟩
  refine ⟨?_,?_⟩
  ·by_cases h:n7 w.terms z<w.value
   ·exact .inr (h1 h)
   ·exact .inl h
  ·by_cases h:w.value<n7 w.terms z
   ·exact .inr (h2 h)
   ·exact .inl h
theorem aE0 (i:Nat) (kind:Int) (v:Rat) (z:List Rat):n7 (w7 i kind v).terms z=z.getD i 0:=by
 show ((0:Int):Rat)+((1:Int):Rat)*z.getD ((i:Int)).toNat 0=_
 rw [lbX]
 have h0:((0:Int):Rat)=0:=rfl
 have h1:((1:Int):Rat)=1:=rfl
 rw [h0,h1];grind
theorem b41 {i:Nat} {v:Rat} {z:List Rat}:V4 (w7 i 1 v) z=true↔z.getD i 0<=v:=by
 rw [a3n,aE0]
 show (_->(1:Int)=1)∧(v<z.getD i 0->(1:Int)=0)↔_
 constructor
 ·rintro ⟨_,h⟩;exact lb2.1 fun h'=>absurd (h h') (by decide)
 ·intro h;exact ⟨fun _=>rfl,fun h'=>absurd h' (lb2.2 h)⟩
theorem at8 {i:Nat} {v:Rat} {z:List Rat}:V4 (w7 i 0 v) z=true↔v<=z.getD i 0:=by
 rw [a3n,aE0]
 show (z.getD i 0<v->(0:Int)=1)∧(_->(0:Int)=0)↔_
 constructor
 ·rintro ⟨h,_⟩;exact lb2.1 fun h'=>absurd (h h') (by decide)
 ·intro h;exact ⟨fun h'=>absurd h' (lb2.2 h),fun _=>rfl⟩
theorem a2Z {i:Nat} {v:Rat} {z:List Rat}:V4 (w7 i 2 v) z=true↔z.getD i 0=v:=by
 rw [a3n,aE0]
 show (z.getD i 0<v->(2:Int)=1)∧(v<z.getD i 0->(2:Int)=0)↔_
 constructor
 ·rintro ⟨h,h2⟩
  have q1:¬z.getD i 0<v:=fun h'=>absurd (h h') (by decide)
  have q2:¬v<z.getD i 0:=fun h'=>absurd (h2 h') (by decide)
  grind
 ·intro h;exact ⟨fun h'=>by grind,fun h'=>by grind⟩
theorem stock_holds {e:Ev} (h0:J4 e=0) {i:Nat} {x:t4} (hx:e.moves[i]? =some x) {z:List Rat}:V4 (C8 e i x) z=true↔z.getD i 0<=H8 e z i x.src.toNat∧(x.all=true->z.getD i 0=H8 e z i x.src.toNat):=by
 have hm:=K6 h0 (lbm hx)
 have ms:=Y2 hm
 have hv:n7 (C8 e i x).terms z=H8 e z i x.src.toNat - z.getD i 0:=by
  unfold C8
  simp only
  rw [Q6,show t7 e x.src i=t7 e ((x.src.toNat:Nat):Int) i by rw [show ((x.src.toNat:Nat):Int)=x.src by omega],ab9 h0]
  simp only [lbX]
  have:((-1:Int):Rat)=-1:=rfl
  rw [this];grind
 have hz:(C8 e i x).value=0:=rfl
 have hk:(C8 e i x).kind=if x.all then 2 else 0:=rfl
 rw [a3n,hv,hz,hk]
 cases hal:x.all with
 |true=>
  simp only [if_true]
  constructor
  ·rintro ⟨h,h2⟩
   have q1:¬H8 e z i x.src.toNat - z.getD i 0<0:=fun h'=>absurd (h h') (by decide)
   have q2:¬0<H8 e z i x.src.toNat - z.getD i 0:=fun h'=>absurd (h2 h') (by decide)
   exact ⟨by grind,fun _=>by grind⟩
  ·rintro ⟨h,h2⟩
   have h2:=h2 trivial
   exact ⟨fun h'=>by grind,fun h'=>by grind⟩
 |false=>
  simp only [Bool.false_eq_true,if_false]
  constructor
  ·rintro ⟨h,h2⟩
   have q1:¬H8 e z i x.src.toNat - z.getD i 0<0:=fun h'=>absurd (h h') (by decide)
   exact ⟨by grind,fun h=>(by cases h)⟩
  ·rintro ⟨h,_⟩
   exact ⟨fun h'=>by grind,fun _=>trivial⟩
theorem move_holds {t:g7} {kind:Int} (h0:J4 t.ev=0) {i:Nat} {x:t4} (hx:t.ev.moves[i]? =some x) {z:List Rat} (hz:0<=z.getD i 0):
 (M6 t kind i x).all (fun w=>V4 w z)=true↔b7i t.ev x (z.getD i 0) (H8 t.ev z i x.src.toNat)∧aF8 t kind i x (z.getD i 0):=by
 have hmo:=K6 h0 (lbm hx)
 unfold M6
 simp only [List.all_append,lbM,List.all_map]
 have e1:(if B6 t.ev x.src=0 then ([]:List H4) else [C8 t.ev i x]).all (fun w=>V4 w z)=true↔(B6 t.ev x.src≠0->z.getD i 0<=H8 t.ev z i x.src.toNat∧(x.all=true->z.getD i 0=H8 t.ev z i x.src.toNat)):=by
  by_cases hb:B6 t.ev x.src=0
  ·rw [if_pos hb];exact ⟨fun _ h=>absurd hb h,fun _=>rfl⟩
  ·rw [if_neg hb]
   simp only [List.all_cons,List.all_nil,Bool.and_true]
   rw [stock_holds h0 hx]
   exact ⟨fun h _=>h,fun h=>h hb⟩
 have e2:(P1 (O5 t.ev x) i).all (fun w=>V4 w z)=true↔aM3 (O5 t.ev x) (z.getD i 0)=true:=by
  cases hiv:O5 t.ev x with
  |none=>exact ⟨fun _=>rfl,fun _=>rfl⟩
  |some p=>
   obtain ⟨lo,hi⟩:=p
   simp only [P1,aM3,List.all_cons,List.all_nil,Bool.and_true,lbI]
   exact b41
 have e3:(j9 t.finds kind i).all ((fun w=>V4 w z) ∘ fun g:Int=>w7 i 0 (g:Rat))=true↔∀g ∈ j9 t.finds kind i,(g:Rat)<=z.getD i 0:=by
  rw [lbv]
  exact ⟨fun h g hg=>at8.1 (h g hg),fun h g hg=>at8.2 (h g hg)⟩
 have e4:(List.replicate (p8 t.cleans kind i) (w7 i 2 ((0:Int):Rat))).all (fun w=>V4 w z)=true↔(0<p8 t.cleans kind i->z.getD i 0=0):=by
  rw [lbv]
  constructor
  ·intro h hc;exact a2Z.1 (h _ (List.mem_replicate.2 ⟨by omega,rfl⟩))
  ·intro h w hw
   obtain ⟨h1,rfl⟩:=List.mem_replicate.1 hw
   exact a2Z.2 (h (by omega))
 rw [e1,e2,e3,e4]
 constructor
 ·rintro ⟨⟨⟨q1,q2⟩,q3⟩,q4⟩
  exact ⟨⟨hz,fun h=>(q1 h).1,fun h=>(q1 (aX2 hmo h)).2 h⟩,⟨q2,q3,q4⟩⟩
 ·rintro ⟨p1,p2⟩
  exact ⟨⟨⟨fun h=>⟨p1.most h,p1.all⟩,p2.cap⟩,p2.fin⟩,p2.cln⟩
theorem T1 {t:g7} {kind:Int} {q:H4->Bool}:∀n,n<=t.ev.moves.length->((v8 t kind n).all q=true↔∀i x,i<n->t.ev.moves[i]? =some x->(M6 t kind i x).all q=true)
 |0,_=>⟨fun _ i x h=>by omega,fun _=>rfl⟩
 |n+1,h=>by
  obtain ⟨y,hy⟩:∃y,t.ev.moves[n]? =some y:=⟨_,lbf (by omega)⟩
  unfold v8
  rw [hy]
  simp only [List.all_append,lbM]
  rw [T1 n (by omega)]
  constructor
  ·rintro ⟨h1,h2⟩ i x hi hx
   rcases Nat.lt_or_ge i n with h3|h3
   ·exact h1 i x h3 hx
   ·obtain rfl:i=n:=by omega
    rw [hy] at hx;injection hx with hx;subst hx;exact h2
  ·intro h1
   exact ⟨fun i x hi hx=>h1 i x (by omega) hx,h1 n y (by omega) hy⟩
theorem a3P {last n i:Int} {c:Rat} (h1:last<i) (h2:i<n) (h3:c≠0):k7 last n [(i,c)]=true:=by
 unfold k7
 simp [h1,h2,h3,k7]
theorem a4W {n:Int} {c:Rat} {i:Int} (h2:i<n) (h3:c≠0):∀{l:List (Int × Rat)} {last:Int},k7 last n l=true->last<i->(∀ t ∈ l,t.1<i)->k7 last n (l++[(i,c)])=true
 |[],last,_,h,_=>a3P h h2 h3
 |t::r,last,h,h1,ht=>by
  unfold k7 at h
  simp only [lbM,lbI] at h
  show k7 last n (t::(r++[(i,c)]))=true
  unfold k7
  simp only [lbM,lbI]
  exact ⟨h.1,a4W h2 h3 h.2 (ht t (by simp)) fun u hu=>ht u (by simp [hu])⟩
theorem a46:((1:Int):Rat)≠0:=by decide
theorem a90:((-1:Int):Rat)≠0:=by decide
theorem a66 {e:Ev} {p:Int} {n:Int}:∀k:Nat,(k:Int)<=n->k7 (-1) n (t7 e p k)=true∧∀t ∈ t7 e p k,t.1<(k:Int)
 |0,_=>⟨rfl,fun t ht=>by cases ht⟩
 |k+1,h=>by
  obtain ⟨h1,h2⟩:=a66 (e:=e) (p:=p) (n:=n) k (by omega)
  have h3:∀c:Rat,c≠0->k7 (-1) n (t7 e p k++[((k:Int),c)])=true∧∀t ∈ t7 e p k++[((k:Int),c)],t.1<((k+1:Nat):Int):=fun c hc=>
   ⟨a4W (by omega) hc h1 (by omega) h2,fun t ht=>by
     rcases lbz.1 ht with ht|ht
     ·have:=h2 t ht;omega
     ·simp at ht;subst ht;simp;omega⟩
  unfold t7
  cases hx:e.moves[k]? with
  |none=>exact ⟨h1,fun t ht=>by have:=h2 t ht;omega⟩
  |some y=>
   simp only
   split
   ·exact h3 _ a46
   ·split
    ·exact h3 _ a90
    ·exact ⟨h1,fun t ht=>by have:=h2 t ht;omega⟩
theorem aU5 {t:g7} {kind:Int} {i:Nat} {x:t4} {n:Int} (hi:(i:Int)<n):(M6 t kind i x).all (B2 n)=true:=by
 have ho:∀(k:Int) (v:Rat),0<=k->k<3->B2 n (w7 i k v)=true:=fun k v h1 h2=>by
  unfold B2 w7
  simp only [lbM,lbI]
  exact ⟨⟨a3P (by omega) hi a46,h1⟩,h2⟩
 unfold M6
 simp only [List.all_append,lbM,lbv]
 refine ⟨⟨⟨fun w hw=>?_,fun w hw=>?_⟩,fun w hw=>?_⟩,fun w hw=>?_⟩
 ·by_cases hb:B6 t.ev x.src=0
  ·rw [if_pos hb] at hw;cases hw
  ·rw [if_neg hb] at hw
   simp at hw
   subst hw
   obtain ⟨h1,h2⟩:=a66 (e:=t.ev) (p:=x.src) (n:=n) i (by omega)
   unfold B2 C8
   simp only [lbM,lbI]
   refine ⟨⟨a4W hi a90 h1 (by omega) h2,?_⟩,?_⟩<;>split<;>decide
 ·cases hiv:O5 t.ev x with
  |none=>rw [hiv] at hw;cases hw
  |some p=>
   obtain ⟨lo,hi⟩:=p
   rw [hiv] at hw
   simp [P1] at hw
   subst hw
   exact ho 1 hi (by decide) (by decide)
 ·obtain ⟨g,_,rfl⟩:=lbx.1 hw
  exact ho 0 _ (by decide) (by decide)
 ·obtain ⟨_,rfl⟩:=List.mem_replicate.1 hw
  exact ho 2 _ (by decide) (by decide)
theorem aE8 {t:g7} {kind:Int} {i:Nat} {x:t4}:(M6 t kind i x).length<=2+t.finds.length+t.cleans.length:=by
 unfold M6
 have h1:(P1 (O5 t.ev x) i).length<=1:=by unfold P1;split<;>simp
 have h2:(j9 t.finds kind i).length<=t.finds.length:=by unfold j9;rw [lbr];exact lbt _ _
 have h3:p8 t.cleans kind i<=t.cleans.length:=lbt _ _
 have h4:(if B6 t.ev x.src=0 then ([]:List H4) else [C8 t.ev i x]).length<=1:=by split<;>simp
 simp only [lbq,lbr,List.length_replicate]
 omega
theorem T2 {t:g7} {kind:Int}:∀n,(v8 t kind n).length<=n*(2+t.finds.length+t.cleans.length)
 |0=>by simp [v8]
 |n+1=>by
  have ih:=T2 (t:=t) (kind:=kind) n
  unfold v8
  rw [lbU]
  cases hx:t.ev.moves[n]? with
  |none=>simp only;omega
  |some x=>
   have:=aE8 (t:=t) (kind:=kind) (i:=n) (x:=x)
   simp only [lbq]
   omega
theorem a0D {t:g7} {kind:Int} (hm:t.ev.moves.length<=14) (hf:t.finds.length<=20) (hc:t.cleans.length<=50):p5 (n8 t kind)=true:=by
 unfold p5 n8
 have h1:=T2 (t:=t) (kind:=kind) t.ev.moves.length
 have h2:t.ev.moves.length*(2+t.finds.length+t.cleans.length)<=14*72:=lbS hm (by omega)
 simp only [lbM,lbI]
 refine ⟨⟨⟨by omega,by omega⟩,by omega⟩,?_⟩
 rw [T1 _ (lbQ _)]
 intro i x hi hx
 exact aU5 (by omega)
theorem sys_holds {t:g7} {kind:Int} {z:List Rat} (ht:n9 t=0) (k0:0<=kind) (k1:kind<8) (hm:t.ev.moves.length<=14):i6 (n8 t kind) z=true↔a4j t kind z:=by
 obtain ⟨q1,q2,q3,q4,q5⟩:=z6 ht
 unfold i6
 rw [a0D hm q2 q3]
 simp only [Bool.true_and,lbM,lbI]
 constructor
 ·rintro ⟨⟨h1,h2⟩,h3⟩
  have hl:z.length=t.ev.moves.length:=by have:(z.length:Int)=t.ev.moves.length:=h1;omega
  refine ⟨ht,k0,k1,hl,fun i x hx=>?_⟩
  have hi:i<t.ev.moves.length:=(lbe.1 hx).1
  have hz:0<=z.getD i 0:=lbL (lbv.1 h2 _ (lbm (getD_some (by omega))))
  exact (move_holds q1 hx hz).1 ((T1 _ (lbQ _)).1 h3 i x hi hx)
 ·intro h
  refine ⟨⟨?_,?_⟩,?_⟩
  ·show (z.length:Int)=t.ev.moves.length
   rw [h.len]
  ·rw [lbv]
   intro v hv
   obtain ⟨i,hi,rfl⟩:=List.getElem_of_mem hv
   obtain ⟨x,hx⟩:∃x,t.ev.moves[i]? =some x:=⟨_,lbf (by rw [← h.len];exact hi)⟩
   have:=(h.step i x hx).1.pos
   rw [lbl,lbf hi] at this
   exact lbH this
  ·show (v8 t kind t.ev.moves.length).all _=true
   rw [T1 _ (lbQ _)]
   intro i x hi hx
   obtain ⟨a,b⟩:=h.step i x hx
   exact (move_holds q1 hx a.pos).2 ⟨a,b⟩
def J9.row (f:J9):List T:=[ti f.mv,ti f.kind,ti f.grams]
def D6.row (c:D6):List T:=[ti c.mv,ti c.kind]
abbrev a8l (l:List J9):T:=.sl 3 .any (l.map J9.row)
abbrev a5E (l:List D6):T:=.sl 2 .any (l.map D6.row)
def trT (t:g7):List T:=[ti t.ev.mats,ti t.ev.hhs,ti t.ev.scs,a5N t.ev.places,a2P t.ev.moves,a2I t.ev.certs,T8 t.ev.recalls,a1H t.ev.purities,a8l t.finds,a5E t.cleans]
def trC (t:g7):List C:=[.t (ti t.ev.mats),.t (ti t.ev.hhs),.t (ti t.ev.scs),.t (a5N t.ev.places),.t (a2P t.ev.moves),.t (a2I t.ev.certs),.t (T8 t.ev.recalls),.t (a1H t.ev.purities),.t (a8l t.finds),.t (a5E t.cleans)]
abbrev trS (t:g7):S:=.agg (trC t)
structure g7.Sized (t:g7):Prop where
 ev:t.ev.Sized
 f:t.finds.length<=1000000
 c:t.cleans.length<=1000000
theorem a51 {x:Rat}:sgR x=0↔x=0:=by unfold sgR;split<;>(try split)<;>simp_all<;>grind
theorem b4x (e:Ev) (mv kind:Int):b9 Tryz.prog 124 [evS e,b7 .i64 mv,b7 .i64 kind] [] (b7 .i64 (a0l e mv kind)) []:=by
 have l2:(e.moves.map t4.row).length=e.moves.length:=by simp
 (refine ac Tryz.func124 ?_;(conv=>whnf);repeat ((first|refine b0x ?_|refine zy ?_);conv=>whnf))
 repeat' (first|refine zx ?_|refine zd ?_ ?_<;>intro h<;>try omega|fail)<;>conv=>whnf
 all_goals (refine t6 ?_;unfold a0l;(repeat' split)<;>first|rfl|omega)
theorem a38 (t:g7) (hs:t.Sized):b9 Tryz.prog 58 [trS t] [] (b7 .i64 (n9 t)) []:=by
 have l1:=hs.f
 have l2:=hs.c
 have ck:=b24 t.ev hs.ev
 have m1:(t.finds.map J9.row).length=t.finds.length:=by simp
 have m2:(t.cleans.map D6.row).length=t.cleans.length:=by simp
 by_cases h0:J4 t.ev≠0
 ·have e1:n9 t=J4 t.ev:=by unfold n9;rw [if_pos h0]
  rw [e1]
  (refine ac Tryz.func58 ?_;(conv=>whnf);repeat ((first|refine b0x ?_|refine zy ?_);conv=>whnf))
  repeat' (first|refine zx ?_|refine qp ck ?_|refine zd ?_ ?_<;>intro h<;>try omega|fail)<;>conv=>whnf
  all_goals first
   |omega
   |exact t6 rfl
 have h0:J4 t.ev=0:=by omega
 rw [h0] at ck
 by_cases h1:20<t.finds.length∨50<t.cleans.length
 ·have e1:n9 t=6:=by unfold n9;rw [if_neg (by omega),if_pos h1]
  rw [e1]
  (refine ac Tryz.func58 ?_;(conv=>whnf);repeat ((first|refine b0x ?_|refine zy ?_);conv=>whnf))
  repeat' (first|refine zx ?_|refine qp ck ?_|refine zd ?_ ?_<;>intro h<;>try omega|fail)<;>conv=>whnf
  all_goals first
   |omega
   |exact t6 rfl
 have e1:n9 t=if J6 t.ev t.finds≠0 then J6 t.ev t.finds else N0 t.ev t.cleans:=by unfold n9;rw [if_neg (by omega),if_neg h1]
 rw [e1]
 (refine ac Tryz.func58 ?_;(conv=>whnf);repeat ((first|refine b0x ?_|refine zy ?_);conv=>whnf))
 repeat' (first|refine zx ?_|refine qp ck ?_|refine zd ?_ ?_<;>intro h<;>try omega|fail)<;>conv=>whnf
 all_goals try omega
 refine j7 g6 (fun k=>([J,S.c (C.t (T.ptr (trT t)))]++Jn 25++[S.c (C.t (a8l t.finds)),b7 .i64 t.finds.length,b7 .i64 k]++Jn 40,[])) t.finds.length (fun k=>J6 t.ev t.finds=J6 t.ev (t.finds.drop k)) [] rfl
  ⟨rfl,rfl,trivial,⟨rfl,rfl,e8 (by simp),rfl,trivial⟩⟩ ?_
 intro k hk hI
 by_cases hlt:k<t.finds.length
 ·obtain ⟨f,hf⟩:∃f,t.finds[k]? =some f:=⟨_,lbf hlt⟩
  have mk:=b4x t.ev f.mv f.kind
  rw [a4p hf,J6] at hI
  by_cases hm:a0l t.ev f.mv f.kind≠0
  ·rw [if_pos hm] at hI
   rw [hI,if_pos hm]
   conv=>whnf
   repeat' (first|refine zx ?_|refine qp mk ?_|refine i3 hf ?_|refine zd ?_ ?_<;>intro h<;>try omega|fail)<;>conv=>whnf
   all_goals first
    |omega
    |exact t6 rfl
  ·rw [if_neg hm] at hI
   by_cases hg:f.grams<1∨1099511627776<f.grams
   ·rw [if_pos hg] at hI
    rw [hI]
    conv=>whnf
    repeat' (first|refine zx ?_|refine qp mk ?_|refine i3 hf ?_|refine zd ?_ ?_<;>intro h<;>try omega|fail)<;>conv=>whnf
    all_goals first
     |omega
     |exact t6 rfl
   ·rw [if_neg hg] at hI
    conv=>whnf
    repeat' (first|refine zx ?_|refine qp mk ?_|refine i3 hf ?_|refine zd ?_ ?_<;>intro h<;>try omega|fail)<;>conv=>whnf
    all_goals first
     |omega
     |exact ⟨hlt,hI,[],rfl,rfl,trivial,⟨rfl,rfl,rfl,rfl,trivial⟩⟩
 ·rw [lbo (by omega)] at hI
  have hI:J6 t.ev t.finds=0:=hI
  rw [hI,if_neg (by omega)]
  conv=>whnf
  repeat' (first|refine zx ?_|refine zd ?_ ?_<;>intro h<;>try omega|fail)<;>conv=>whnf
  all_goals try omega
  refine j7 g6 (fun k=>([J,S.c (C.t (T.ptr (trT t)))]++Jn 51++[S.c (C.t (a5E t.cleans)),b7 .i64 t.cleans.length,b7 .i64 k]++Jn 14,[])) t.cleans.length (fun k=>N0 t.ev t.cleans=N0 t.ev (t.cleans.drop k)) [] rfl
   ⟨rfl,rfl,trivial,⟨rfl,rfl,e8 (by simp),rfl,trivial⟩⟩ ?_
  intro j hj hJ
  by_cases hjt:j<t.cleans.length
  ·obtain ⟨c,hc⟩:∃c,t.cleans[j]? =some c:=⟨_,lbf hjt⟩
   have mk:=b4x t.ev c.mv c.kind
   rw [a4p hc,N0] at hJ
   by_cases hm:a0l t.ev c.mv c.kind≠0
   ·rw [if_pos hm] at hJ
    rw [hJ]
    conv=>whnf
    repeat' (first|refine zx ?_|refine qp mk ?_|refine i3 hc ?_|refine zd ?_ ?_<;>intro h<;>try omega|fail)<;>conv=>whnf
    all_goals first
     |omega
     |exact t6 rfl
   ·rw [if_neg hm] at hJ
    conv=>whnf
    repeat' (first|refine zx ?_|refine qp mk ?_|refine i3 hc ?_|refine zd ?_ ?_<;>intro h<;>try omega|fail)<;>conv=>whnf
    all_goals first
     |omega
     |exact ⟨hjt,hJ,[],rfl,rfl,trivial,⟨rfl,rfl,rfl,rfl,trivial⟩⟩
  ·rw [lbo (by omega)] at hJ
   have hJ:N0 t.ev t.cleans=0:=hJ
   rw [hJ]
   conv=>whnf
   repeat' (first|refine zx ?_|refine zd ?_ ?_<;>intro h<;>try omega|fail)<;>conv=>whnf
   all_goals first
    |omega
    |exact t6 rfl
theorem b9e (e:Ev) {i:Nat} {x:t4} (h0:J4 e=0) (hx:e.moves[i]? =some x):b9 Tryz.prog 116 [evS e,b7 .i64 i] [] (j0 (decide (B6 e x.src=0))) []:=by
 have hm:=K6 h0 (lbm hx)
 have ms:=Y2 hm
 obtain ⟨s,hsn⟩:∃s:Nat,x.src=s:=⟨x.src.toNat,by omega⟩
 obtain ⟨pl,hpl⟩:∃pl,e.places[s]? =some pl:=⟨_,lbf (by omega)⟩
 have hkd:B6 e x.src=pl.kind:=by rw [hsn];exact ax0 hpl
 rw [hkd]
 (refine ac Tryz.func116 ?_;(conv=>whnf);repeat ((first|refine b0x ?_|refine zy ?_);conv=>whnf))
 repeat' (first|refine zx ?_|refine i3 hx ?_|refine a7c hsn hpl ?_|refine zd ?_ ?_<;>intro h<;>try omega|fail)<;>conv=>whnf
 all_goals (refine i4 ?_;simp [*])
def H9 (x:Int × Rat):List T:=ti x.1::s9 (fz x.2)
abbrev aC7 (l:List (Int × Rat)):T:=.sl 5 .any (l.map H9)
def D9 (w:H4):List T:=aC7 w.terms::ti w.kind::s9 (fz w.value)
def bl7 (w:H4):List C:=.t (aC7 w.terms)::.t (ti w.kind)::frC (fz w.value)
abbrev b9U (w:H4):S:=.agg (bl7 w)
abbrev a0d (l:List H4):T:=.sl 6 .any (l.map D9)
abbrev a1s (s:l9):S:=.agg [.t (ti s.n),.t (a0d s.rows)]
def a6s (w:Nat) (g:Nat->Rat):List Fr:=(List.range w).map fun m=>fz (g m)
theorem ak5 (w:Nat) (g:Nat->Rat):(a6s w g).length=w:=by simp [a6s]
theorem a7N {w:Nat} {g:Nat->Rat} {m:Nat} (h:m<w):(a6s w g)[m]? =some (fz (g m)):=by simp [a6s,h]
theorem aN0 {w:Nat} {g:Nat->Rat} {m:Nat} {v:Rat} (h:m<w):(a6s w g).set m (fz v)=a6s w (fun j=>if j=m then v else g j):=by
 apply List.ext_getElem?
 intro j
 by_cases hj:j<w
 ·rw [a7N hj,lbg,ak5]
  by_cases hjm:m=j
  ·subst hjm;simp [h]
  ·rw [if_neg hjm,a7N hj,if_neg (by omega)]
 ·rw [lbd (by simp [ak5];omega),lbd (by simp [ak5];omega)]
abbrev b7M (l:List Fr):Blk:={ mode:=.live,elem:=86,size:=4,rows:=toC (l.map s9),box:=false }
theorem b4J {row:List Fr} {i n:Nat} {y:Fr} (h:n=i):C2 (b7M row) ((toC (row.map s9)).set n (frC y))=b7M (row.set i y):=by
 subst h
 unfold C2
 simp [toC,List.map_set,s9]
abbrev zR:Rat:=((0:Int):Rat)
def a2i (m w:Nat):List Fr:=(List.range w).map fun j=>if j<m then fz zR else a2A
theorem a5n (m w:Nat):(a2i m w).length=w:=by simp [a2i]
theorem a5h {m w j:Nat} (h:j<w):(a2i m w)[j]? =some (if j<m then fz zR else a2A):=by simp [a2i,h]
theorem b2K {m w:Nat} (h:m<w):(a2i m w).set m (fz zR)=a2i (m+1) w:=by
 apply List.ext_getElem?
 intro j
 by_cases hj:j<w
 ·rw [a5h hj,lbg,a5n]
  by_cases hjk:m=j
  ·subst hjk;simp [h]
  ·rw [if_neg hjk,a5h hj]
   have:(j<m+1)↔(j<m):=by omega
   simp only [this]
 ·rw [lbd (by simp [a5n];omega),lbd (by simp [a5n];omega)]
theorem b2u (w:Nat):a2i w w=a6s w (fun _=>zR):=by
 unfold a2i a6s
 refine lbp fun j hj=>?_
 rw [if_pos (lbB.1 hj)]
theorem b0G (w:Nat):a2i 0 w=List.replicate w a2A:=by
 apply List.ext_getElem?
 intro j
 by_cases hj:j<w
 ·rw [a5h hj];simp [hj]
 ·rw [lbd (by simp [a5n];omega),lbd (by simp;omega)]
theorem a1l {e:Ev} (h:J4 e=0):1<=e.mats∧e.mats<=6∧e.places.length<=100∧e.moves.length<=200:=by
 obtain ⟨h1,h2,_⟩:=a3N h
 unfold al6 at h1
 simp only [Bool.or_eq_false_iff,lbK] at h1
 omega
abbrev w6 (l:List (Int × Rat)):S:=.c (.t (aC7 l))
def ak7 (l:List (Int × Rat)):Nat->Int
 |0=>-1
 |k+1=>((l[k]?).map (·.1)).getD 0
theorem aa3 {l:List (Int × Rat)} {k:Nat} {t:Int × Rat} (h:l[k]? =some t):ak7 l (k+1)=t.1:=by simp [ak7,h]
theorem U5 (l:List (Int × Rat)) (n:Int) (hl:l.length<=1000000) (hB:∀t ∈ l,rl t.2<=200):b9 Tryz.prog 153 [w6 l,b7 .i64 n] [] (j0 (decide (0<=n) && k7 (-1) n l)) []:=by
 have m1:(l.map H9).length=l.length:=by simp
 by_cases h0:n<0
 ·rw [lbJ (by omega),Bool.false_and]
  (refine ac Tryz.func153 ?_;(conv=>whnf);repeat ((first|refine b0x ?_|refine zy ?_);conv=>whnf))
  repeat' (first|refine zx ?_|refine zd ?_ ?_<;>intro h<;>try omega|fail)<;>conv=>whnf
  all_goals first
   |omega
   |exact i4 rfl
 rw [lbH (by omega),Bool.true_and]
 (refine ac Tryz.func153 ?_;(conv=>whnf);repeat ((first|refine b0x ?_|refine zy ?_);conv=>whnf))
 repeat' (first|refine zx ?_|refine zd ?_ ?_<;>intro h<;>try omega|fail)<;>conv=>whnf
 all_goals try omega
 refine j7 g6 (fun k=>([J,b7 .i64 n,J,J,J,b7 .i64 (ak7 l k),J,J,J,J,w6 l,b7 .i64 l.length,b7 .i64 k]++Jn 22,[])) l.length (fun k=>k7 (-1) n l=k7 (ak7 l k) n (l.drop k)) [] rfl
  ⟨rfl,rfl,trivial,⟨rfl,rfl,rfl,e8 (by simp),rfl,trivial⟩⟩ ?_
 intro k hk hI
 by_cases hlt:k<l.length
 ·obtain ⟨t,ht⟩:∃t,l[k]? =some t:=⟨_,lbf hlt⟩
  obtain ⟨v,c⟩:=t
  have bc:=hB _ (lbm ht)
  simp only at bc
  have sg:=X8 c (by omega)
  have sz:=a51 (x:=c)
  rw [a4p ht,k7] at hI
  simp only at hI
  by_cases hok:ak7 l k<v∧v<n∧c≠0
  ·rw [lbH hok.1,lbH hok.2.1,lbH hok.2.2] at hI
   simp only [Bool.true_and] at hI
   have hne:sgR c≠0:=fun h=>hok.2.2 (sz.1 h)
   obtain ⟨q1,q2,_⟩:=hok
   conv=>whnf
   repeat' (first|refine zx ?_|refine qp sg ?_|refine i3 ht ?_|refine zd ?_ ?_<;>intro h<;>try omega|fail)<;>conv=>whnf
   all_goals first
    |omega
    |exact ⟨hlt,by rw [aa3 ht];exact hI,[],rfl,rfl,trivial,⟨rfl,e8 (by rw [aa3 ht]),rfl,rfl,rfl,trivial⟩⟩
  ·have hF:k7 (-1) n l=false:=by
    rw [hI]
    rw [← lbP]
    simp only [lbM,lbI]
    exact fun h=>hok ⟨h.1.1.1,h.1.1.2,h.1.2⟩
   rw [hF]
   have hor:v<=ak7 l k∨n<=v∨sgR c=0:=by
    by_cases q1:ak7 l k<v
    ·by_cases q2:v<n
     ·refine .inr (.inr (sz.2 ?_))
      by_cases q3:c=0
      ·exact q3
      ·exact absurd ⟨q1,q2,q3⟩ hok
     ·exact .inr (.inl (by omega))
    ·exact .inl (by omega)
   clear hI hok
   conv=>whnf
   repeat' (first|refine zx ?_|refine qp sg ?_|refine i3 ht ?_|refine zd ?_ ?_<;>intro h<;>try omega|fail)<;>conv=>whnf
   all_goals first
    |omega
    |exact i4 rfl
 ·rw [lbo (by omega)] at hI
  have hI:k7 (-1) n l=true:=hI
  rw [hI]
  conv=>whnf
  repeat' (first|refine zx ?_|refine zd ?_ ?_<;>intro h<;>try omega|fail)<;>conv=>whnf
  all_goals first
   |omega
   |exact i4 rfl
structure b4b (s:l9):Prop where
 n0:s.rows.length<=1000000
 t:∀w ∈ s.rows,w.terms.length<=100∧(∀ t ∈ w.terms,rl t.2<=200)∧rl w.value<=200
theorem a7a (s:l9) (hb:b4b s):b9 Tryz.prog 206 [a1s s] [] (j0 (p5 s)) []:=by
 have m1:(s.rows.map D9).length=s.rows.length:=by simp
 have l1:=hb.n0
 by_cases h0:¬(0<=s.n∧s.n<=1500∧s.rows.length<=6000)
 ·have e1:p5 s=false:=by
   unfold p5
   rw [← lbP]
   simp only [lbM,lbI]
   exact fun h=>h0 ⟨h.1.1.1,h.1.1.2,h.1.2⟩
  rw [e1]
  (refine ac Tryz.func206 ?_;(conv=>whnf);repeat ((first|refine b0x ?_|refine zy ?_);conv=>whnf))
  repeat' (first|refine zx ?_|refine zd ?_ ?_<;>intro h<;>try omega|fail)<;>conv=>whnf
  all_goals first
   |omega
   |exact i4 rfl
 obtain ⟨c1,c2,c3⟩:=aS1.1 h0
 have e1:p5 s=s.rows.all (B2 s.n):=by
  unfold p5
  rw [lbH c1,lbH c2,lbH c3];rfl
 rw [e1]
 clear h0
 (refine ac Tryz.func206 ?_;(conv=>whnf);repeat ((first|refine b0x ?_|refine zy ?_);conv=>whnf))
 repeat' (first|refine zx ?_|refine zd ?_ ?_<;>intro h<;>try omega|fail)<;>conv=>whnf
 all_goals try omega
 refine j7 g6 (fun k=>([J,S.c (C.t (T.ptr [ti s.n,a0d s.rows]))]++Jn 18++[S.c (C.t (a0d s.rows)),b7 .i64 s.rows.length,b7 .i64 k]++Jn 26,[])) s.rows.length (fun k=>(s.rows.take k).all (B2 s.n)=true) [] rfl
  ⟨rfl,rfl,trivial,⟨rfl,rfl,e8 (by simp),rfl,trivial⟩⟩ ?_
 intro k hk hI
 by_cases hlt:k<s.rows.length
 ·obtain ⟨w,hw⟩:∃w,s.rows[k]? =some w:=⟨_,lbf hlt⟩
  obtain ⟨b1,b2,b3⟩:=hb.t w (lbm hw)
  have rt:=U5 w.terms s.n (by omega) b2
  rw [lbH c1,Bool.true_and] at rt
  have rv:=K8 w.value (by omega)
  cases hrt:k7 (-1) s.n w.terms with
  |false=>
   rw [hrt] at rt
   have hF:B2 s.n w=false:=by unfold B2;rw [hrt];rfl
   rw [K5 hw hF]
   conv=>whnf
   repeat' (first|refine zx ?_|refine qp rt ?_|refine qp rv ?_|refine i3 hw ?_|refine zd ?_ ?_<;>intro h<;>try omega|fail)<;>conv=>whnf
   all_goals first
    |omega
    |(exfalso;simp_all;done)
    |exact i4 rfl
  |true=>
   rw [hrt] at rt
   by_cases hk3:0<=w.kind∧w.kind<3
   ·have hT:B2 s.n w=true:=by unfold B2;rw [hrt,lbH hk3.1,lbH hk3.2];rfl
    conv=>whnf
    repeat' (first|refine zx ?_|refine qp rt ?_|refine qp rv ?_|refine i3 hw ?_|refine zd ?_ ?_<;>intro h<;>try omega|fail)<;>conv=>whnf
    all_goals first
     |omega
     |(exfalso;simp_all;done)
     |exact ⟨hlt,by rw [F8 hw,hI,hT];rfl,[],rfl,rfl,trivial,⟨rfl,rfl,rfl,rfl,trivial⟩⟩
   ·have hF:B2 s.n w=false:=by
     unfold B2
     rw [← lbP]
     simp only [lbM,lbI]
     exact fun h=>hk3 ⟨h.1.2,h.2⟩
    rw [K5 hw hF]
    conv=>whnf
    repeat' (first|refine zx ?_|refine qp rt ?_|refine qp rv ?_|refine i3 hw ?_|refine zd ?_ ?_<;>intro h<;>try omega|fail)<;>conv=>whnf
    all_goals first
     |omega
     |(exfalso;simp_all;done)
     |exact i4 rfl
 ·rw [lbn (by omega)] at hI
  rw [hI]
  conv=>whnf
  repeat' (first|refine zx ?_|refine zd ?_ ?_<;>intro h<;>try omega|fail)<;>conv=>whnf
  all_goals first
   |omega
   |exact i4 rfl
theorem b3W (rs:List Fr) (hl:rs.length<=1000000) (g:FuncId) (caps:List T) (q:Fr->Bool) (hg:∀r ∈ rs,b9 Tryz.prog g (frS r::caps.map fun x=>.c (.t x)) [] (j0 (q r)) []):
 b9 Tryz.prog 316 [.c (.t (R0 rs)),.c (.t (.fn (.func g) caps))] [] (b7 .i64 (J8 q rs 0)) []:=by
 have l1:(rs.map s9).length=rs.length:=by simp
 (refine ac Tryz.func316 ?_;(conv=>whnf);repeat (refine zy ?_;conv=>whnf))
 repeat' (first|refine zx ?_|refine zd ?_ ?_<;>intro h<;>try omega|fail)<;>conv=>whnf
 refine j7 g6 (fun k=>([S.c (C.t (R0 rs)),S.c (C.t (T.fn (.func g) caps)),J,J,J,J,J,b7 .i64 rs.length,b7 .i64 k]++Jn 10,[])) rs.length (fun k=>J8 q (rs.drop k) k=J8 q rs 0) [] rfl
  ⟨rfl,rfl,trivial,⟨k9 rfl,k9 rfl,e8 (by simp),rfl,trivial⟩⟩ ?_
 intro k hk hI
 by_cases hlt:k<rs.length
 ·obtain ⟨r,hr⟩:∃r,rs[k]? =some r:=⟨_,lbf hlt⟩
  have hd:rs.drop k=r::rs.drop (k+1):=by
   rw [List.drop_eq_getElem_cons hlt]
   rw [lbf hlt] at hr
   injection hr with hr
   rw [hr]
  have hgr:=hg r (lbm hr)
  have ha:(frS r::caps.map fun x=>S.c (C.t x)).all S.isT=true:=by simp [S.isT,C.isT,s9]
  rw [hd] at hI
  have hI:(if q r then (k:Int) else J8 q (rs.drop (k+1)) (k+1))=J8 q rs 0:=hI
  cases hq:q r with
  |true=>
   rw [hq] at hgr hI
   conv=>whnf
   repeat' (first|refine zx ?_|refine .inl ⟨_,_,E9 hgr ha rfl,?_⟩|refine i3 hr ?_|refine zd ?_ ?_<;>intro h<;>try omega|fail)<;>conv=>whnf
   all_goals first
    |omega
    |exact t6 hI
  |false=>
   rw [hq] at hgr hI
   conv=>whnf
   repeat' (first|refine zx ?_|refine .inl ⟨_,_,E9 hgr ha rfl,?_⟩|refine i3 hr ?_|refine zd ?_ ?_<;>intro h<;>try omega|fail)<;>conv=>whnf
   all_goals first
    |omega
    |exact ⟨hlt,by simpa using hI,[],rfl,rfl,trivial,⟨rfl,rfl,rfl,rfl,trivial⟩⟩
 ·have hke:k=rs.length:=by omega
  subst hke
  rw [lbo (lbQ _)] at hI
  conv=>whnf
  repeat' (first|refine zx ?_|refine zd ?_ ?_<;>intro h<;>try omega|fail)<;>conv=>whnf
  all_goals first
   |omega
   |exact t6 hI
theorem aF7 (rs:List Fr) (hl:rs.length<=1000000) (g:FuncId) (caps:List T) (q:Fr->Bool) (hg:∀r ∈ rs,b9 Tryz.prog g (frS r::caps.map fun x=>.c (.t x)) [] (j0 (q r)) []):
 b9 Tryz.prog 268 [.c (.t (R0 rs)),.c (.t (.fn (.func g) caps))] [] (j0 (rs.any q)) []:=by
 have ix:=b3W rs hl g caps q hg
 (refine ac Tryz.func268 ?_;(conv=>whnf);repeat (refine zy ?_;conv=>whnf))
 repeat' (first|refine zx ?_|refine qp ix ?_|refine zd ?_ ?_<;>intro h<;>try omega|fail)<;>conv=>whnf
 all_goals (refine i4 ?_;rw [← a28 q rs 0];simp;omega)
theorem b4p (f:Fr) (lp:f.p.dl.length<=200000) (lq:f.q.dl.length<=200000):b9 Tryz.prog 269 (frS f::[].map fun x=>.c (.t x)) [] (j0 (!N2 f)) []:=by
 have r:=ag8 f lp lq
 (refine ac Tryz.func269 ?_;(conv=>whnf);repeat ((first|refine b0x ?_|refine zy ?_);conv=>whnf))
 repeat' (first|refine zx ?_|refine qp r ?_|refine zd ?_ ?_<;>intro h<;>try omega|fail)<;>conv=>whnf
 all_goals (refine i4 ?_;simp [*])
theorem b1K (z:List Fr) (hl:z.length<=1000000) (hd:∀f ∈ z,f.p.dl.length<=200000∧f.q.dl.length<=200000):b9 Tryz.prog 207 [G3 z] [] (j0 (z.all N2)) []:=by
 have ct:=aF7 z hl 269 [] _ (fun f hf=>b4p f (hd f hf).1 (hd f hf).2)
 have e:(z.any fun f=>!N2 f)=!(z.all N2):=by rw [List.not_all_eq_any_not]
 rw [e] at ct
 cases hz:z.all N2<;>rw [hz] at ct<;>
 ·(refine ac Tryz.func207 ?_;(conv=>whnf);repeat ((first|refine b0x ?_|refine zy ?_);conv=>whnf))
  repeat' (first|refine zx ?_|refine qp ct ?_|refine zd ?_ ?_<;>intro h<;>try omega|fail)<;>conv=>whnf
  all_goals exact i4 rfl
theorem au0 {n:Int}:∀{l:List (Int × Rat)} {last:Int},k7 last n l=true->∀t ∈ l,last<t.1∧t.1<n
 |[],_,_,t,ht=>by cases ht
 |u::r,last,h,t,ht=>by
  unfold k7 at h
  simp only [lbM,lbI] at h
  rcases lbA.1 ht with rfl|ht
  ·exact ⟨h.1.1.1,h.1.1.2⟩
  ·have:=au0 h.2 t ht
   omega
section
structure Fd where
 V:Nat->Rat
 A:Nat->Nat->Rat
 G:Nat->Rat
 O:Nat->Nat
 F:Nat->Nat
namespace Fd
def pRow (D:Fd) (r s j:Nat):Rat:=if j=s then 1 / D.A r s else D.A r j / D.A r s
def exch (D:Fd) (r s:Nat):Fd where
 V:=fun i=>if i=r then D.V r / D.A r s else D.V i - D.A i s*(D.V r / D.A r s)
 A:=fun i j=>if i=r then D.pRow r s j else if j=s then 0 - D.A i s*D.pRow r s s else D.A i j - D.A i s*D.pRow r s j
 G:=fun j=>if j=s then 0 - D.G s*D.pRow r s s else D.G j - D.G s*D.pRow r s j
 O:=fun i=>if i=r then D.F s else D.O i
 F:=fun j=>if j=s then D.O r else D.F j
end Fd
theorem E3 {f:Nat->Rat} {s:Nat}:∀{n:Nat},s<n->j8 f n=j8 (fun j=>if j=s then 0 else f j) n+f s
 |0,h=>by omega
 |n+1,h=>by
  simp only [j8]
  by_cases hs:s=n
  ·subst hs
   rw [if_pos rfl,i9 (n:=s) (f:=fun j=>if j=s then 0 else f j) (g:=f) fun m hm=>by rw [if_neg (by omega)]]
   grind
  ·rw [if_neg (show ¬n=s by omega),E3 (f:=f) (s:=s) (n:=n) (by omega)];grind
theorem G5 {f:Nat->Rat} (k:Rat):∀n:Nat,j8 (fun j=>k*f j) n=k*j8 f n
 |0=>by simp only [j8,a0Q];grind
 |n+1=>by simp only [j8];rw [G5 k n];grind
theorem a1r {f g:Nat->Rat}:∀n:Nat,j8 (fun j=>f j+g j) n=j8 f n+j8 g n
 |0=>by simp only [j8,a0Q];grind
 |n+1=>by simp only [j8];rw [a1r n];grind
theorem w9 {f:Nat->Rat}:∀{n:Nat},(∀ j,j<n->f j=0)->j8 f n=0
 |0,_=>by simp only [j8,a0Q]
 |n+1,h=>by simp only [j8];rw [w9 fun j hj=>h j (by omega),h n (by omega)];grind
theorem a9y {f:Nat->Rat}:∀{n:Nat},(∀ j,j<n->f j<=0)->j8 f n<=0
 |0,_=>by simp only [j8,a0Q];grind
 |n+1,h=>by
  simp only [j8]
  have h1:=a9y (f:=f) (n:=n) fun j hj=>h j (by omega)
  have h2:=h n (by omega)
  grind
theorem b8L {f:Nat->Rat} {n s:Nat} (h:∀j,j<n->f j<=0) (hs:s<n) (h0:f s<0):j8 f n<0:=by
 rw [E3 hs]
 have:=a9y (f:=fun j=>if j=s then 0 else f j) (n:=n) fun j hj=>by split;grind;exact h j hj
 grind
theorem b8u {f:Nat->Rat} {n s:Nat} (h:∀j,j<n->0<=f j) (hs:s<n) (h0:0<f s):0<j8 f n:=by
 rw [E3 hs]
 have:=a36 (f:=fun j=>if j=s then 0 else f j) (n:=n) fun j hj=>by
  by_cases hj2:j=s
  ·simp only [hj2,if_true];grind
  ·simp only [if_neg hj2];exact h j hj
 grind
def Ids (m n:Nat) (D:Fd) (y:Nat->Rat) (c:Rat):Prop:=∀i,i<m->y (D.O i)=c*D.V i - j8 (fun j=>D.A i j*y (D.F j)) n
theorem a9S {D:Fd} {r s n:Nat} {y:Nat->Rat} (hs:s<n) (f:Nat->Rat) (f':Nat->Rat) (k:Rat) (hf:∀j,j≠s->f' j=f j - k*D.pRow r s j):
 j8 (fun j=>f' j*y ((D.exch r s).F j)) n=j8 (fun j=>if j=s then 0 else f j*y (D.F j)) n - k*j8 (fun j=>if j=s then 0 else D.pRow r s j*y (D.F j)) n+f' s*y (D.O r):=by
 rw [E3 hs]
 have h1:(D.exch r s).F s=D.O r:=by show (if s=s then D.O r else D.F s)=_;rw [if_pos rfl]
 rw [h1]
 have h2:j8 (fun j=>if j=s then 0 else f' j*y ((D.exch r s).F j)) n=j8 (fun j=>(if j=s then 0 else f j*y (D.F j))+(-k)*(if j=s then 0 else D.pRow r s j*y (D.F j))) n:=i9 fun j hj=>by
  by_cases h:j=s
  ·rw [if_pos h,if_pos h,if_pos h];grind
  ·rw [if_neg h,if_neg h,if_neg h,hf j h]
   have:(D.exch r s).F j=D.F j:=by show (if j=s then D.O r else D.F j)=_;rw [if_neg h]
   rw [this];grind
 rw [h2,a1r,G5];grind
theorem al3 {D:Fd} {r s n:Nat} {y:Nat->Rat} {c:Rat} (hs:s<n) (hp:D.A r s≠0):
 y (D.O r)=c*D.V r - j8 (fun j=>D.A r j*y (D.F j)) n↔y (D.F s)=c*(D.V r / D.A r s) - j8 (fun j=>if j=s then 0 else D.pRow r s j*y (D.F j)) n - 1 / D.A r s*y (D.O r):=by
 have e1:j8 (fun j=>D.A r j*y (D.F j)) n=D.A r s*j8 (fun j=>if j=s then 0 else D.pRow r s j*y (D.F j)) n+D.A r s*y (D.F s):=by
  rw [E3 hs,←G5]
  congr 1
  refine i9 fun j hj=>?_
  by_cases h:j=s
  ·simp only [if_pos h];grind
  ·simp only [if_neg h]
   unfold Fd.pRow
   rw [if_neg h];grind
 rw [e1]
 generalize j8 (fun j=>if j=s then 0 else D.pRow r s j*y (D.F j)) n=R
 generalize y (D.F s)=a
 generalize y (D.O r)=b
 generalize D.V r=v
 generalize D.A r s=p at *
 constructor
 ·intro h;rw [h];grind
 ·intro h;rw [h];grind
theorem ae0 {m n:Nat} {D:Fd} {r s:Nat} {y:Nat->Rat} {c:Rat} (hr:r<m) (hs:s<n) (hp:D.A r s≠0):Ids m n D y c↔Ids m n (D.exch r s) y c:=by
 have hO:(D.exch r s).O r=D.F s:=by show (if r=r then D.F s else D.O r)=_;rw [if_pos rfl]
 have hV:(D.exch r s).V r=D.V r / D.A r s:=by show (if r=r then _ else _)=_;rw [if_pos rfl]
 have hA:∀j,(D.exch r s).A r j=D.pRow r s j:=fun j=>by show (if r=r then _ else _)=_;rw [if_pos rfl]
 have hps:D.pRow r s s=1 / D.A r s:=by unfold Fd.pRow;rw [if_pos rfl]
 have rowr:(y ((D.exch r s).O r)=c*(D.exch r s).V r - j8 (fun j=>(D.exch r s).A r j*y ((D.exch r s).F j)) n)↔y (D.O r)=c*D.V r - j8 (fun j=>D.A r j*y (D.F j)) n:=by
  rw [al3 hs hp,hO,hV]
  have h:=a9S (D:=D) (r:=r) (y:=y) hs (fun _=>0) ((D.exch r s).A r) (-1) (fun j hj=>by rw [hA];grind)
  rw [h,hA,hps,w9 (f:=fun j=>if j=s then 0 else 0*y (D.F j)) (fun j _=>by split<;>grind)]
  constructor
  ·intro h;rw [h];grind
  ·intro h;rw [h];grind
 have rowi:∀i,i≠r->y (D.O r)=c*D.V r - j8 (fun j=>D.A r j*y (D.F j)) n->
  ((y ((D.exch r s).O i)=c*(D.exch r s).V i - j8 (fun j=>(D.exch r s).A i j*y ((D.exch r s).F j)) n)↔y (D.O i)=c*D.V i - j8 (fun j=>D.A i j*y (D.F j)) n):=fun i hi h0=>by
  rw [al3 hs hp] at h0
  have h1:(D.exch r s).O i=D.O i:=by show (if i=r then _ else _)=_;rw [if_neg hi]
  have h2:(D.exch r s).V i=D.V i - D.A i s*(D.V r / D.A r s):=by show (if i=r then _ else _)=_;rw [if_neg hi]
  have h3:∀j,j≠s->(D.exch r s).A i j=D.A i j - D.A i s*D.pRow r s j:=fun j hj=>by show (if i=r then _ else _)=_;rw [if_neg hi,if_neg hj]
  have h4:(D.exch r s).A i s=0 - D.A i s*D.pRow r s s:=by show (if i=r then _ else _)=_;rw [if_neg hi,if_pos rfl]
  rw [h1,h2,a9S hs (D.A i) ((D.exch r s).A i) (D.A i s) h3,h4,hps,E3 (f:=fun j=>D.A i j*y (D.F j)) hs,h0]
  constructor
  ·intro h;rw [h];grind
  ·intro h;rw [h];grind
 constructor
 ·intro h i hi
  by_cases hir:i=r
  ·subst hir;exact rowr.2 (h i hi)
  ·exact (rowi i hir (h r hr)).2 (h i hi)
 ·intro h i hi
  have h0:=rowr.1 (h r hr)
  by_cases hir:i=r
  ·subst hir;exact h0
  ·exact (rowi i hir h0).1 (h i hi)
def a02 (n:Nat) (D:Fd) (g0:Nat->Rat) (m:Nat) (z:Rat):Prop:=∀y c,Ids m n D y c->j8 (fun j=>g0 j*y j) n=c*z+j8 (fun j=>D.G j*y (D.F j)) n
theorem as7 {m n:Nat} {D:Fd} {r s:Nat} {g0:Nat->Rat} {z:Rat} (hr:r<m) (hs:s<n) (hp:D.A r s≠0) (h:a02 n D g0 m z):a02 n (D.exch r s) g0 m (z+D.G s*(D.V r / D.A r s)):=by
 intro y c hy
 have hy:=(ae0 hr hs hp).2 hy
 rw [h y c hy]
 have h0:=(al3 hs hp).1 (hy r hr)
 have hps:D.pRow r s s=1 / D.A r s:=by unfold Fd.pRow;rw [if_pos rfl]
 have h3:∀j,j≠s->(D.exch r s).G j=D.G j - D.G s*D.pRow r s j:=fun j hj=>by show (if j=s then _ else _)=_;rw [if_neg hj]
 have h4:(D.exch r s).G s=0 - D.G s*D.pRow r s s:=by show (if s=s then _ else _)=_;rw [if_pos rfl]
 rw [a9S hs D.G (D.exch r s).G (D.G s) h3,h4,hps,E3 (f:=fun j=>D.G j*y (D.F j)) hs,h0]
 grind
end
def am3 (f:Nat->Nat) (w:Nat):Nat->Option Nat
 |0=>none
 |k+1=>match am3 f w k with
  |some i=>some i
  |none=>if f k=w then some k else none
theorem a5D {f:Nat->Nat} {w:Nat}:∀{k i:Nat},am3 f w k=some i->i<k∧f i=w
 |0,i,h=>by cases h
 |k+1,i,h=>by
  unfold am3 at h
  split at h
  ·rename_i i' hi;injection h with h;subst h;have:=a5D hi;exact ⟨by omega,this.2⟩
  ·split at h
   ·injection h with h;subst h;exact ⟨by omega,by assumption⟩
   ·cases h
theorem a8m {f:Nat->Nat} {w:Nat}:∀{k:Nat},am3 f w k=none->∀i,i<k->f i≠w
 |0,_,i,hi=>by omega
 |k+1,h,i,hi=>by
  unfold am3 at h
  split at h
  ·cases h
  ·rename_i hn
   split at h
   ·cases h
   ·by_cases hik:i=k
    ·subst hik;assumption
    ·exact a8m hn i (by omega)
structure Y3 (m n:Nat) (D:Fd):Prop where
 oi:∀i i',i<m->i'<m->D.O i=D.O i'->i=i'
 fi:∀j j',j<n->j'<n->D.F j=D.F j'->j=j'
 of:∀i j,i<m->j<n->D.O i≠D.F j
 all:∀w,w<n+m->(∃ i,i<m∧D.O i=w)∨(∃ j,j<n∧D.F j=w)
 ob:∀i,i<m->D.O i<n+m
 fb:∀j,j<n->D.F j<n+m
theorem a8d {D:Fd} {r s i:Nat}:(D.exch r s).O i=if i=r then D.F s else D.O i:=rfl
theorem a1V {D:Fd} {r s j:Nat}:(D.exch r s).F j=if j=s then D.O r else D.F j:=rfl
theorem aq6 {m n:Nat} {D:Fd} {r s:Nat} (hr:r<m) (hs:s<n) (h:Y3 m n D):Y3 m n (D.exch r s) where
 oi:=fun i i' hi hi' he=>by
  rw [a8d,a8d] at he
  by_cases h1:i=r<;>by_cases h2:i'=r
  ·omega
  ·rw [if_pos h1,if_neg h2] at he;exact absurd he.symm (h.of i' s hi' hs)
  ·rw [if_neg h1,if_pos h2] at he;exact absurd he (h.of i s hi hs)
  ·rw [if_neg h1,if_neg h2] at he;exact h.oi i i' hi hi' he
 fi:=fun j j' hj hj' he=>by
  rw [a1V,a1V] at he
  by_cases h1:j=s<;>by_cases h2:j'=s
  ·omega
  ·rw [if_pos h1,if_neg h2] at he;exact absurd he (h.of r j' hr hj')
  ·rw [if_neg h1,if_pos h2] at he;exact absurd he.symm (h.of r j hr hj)
  ·rw [if_neg h1,if_neg h2] at he;exact h.fi j j' hj hj' he
 of:=fun i j hi hj he=>by
  rw [a8d,a1V] at he
  by_cases h1:i=r<;>by_cases h2:j=s
  ·rw [if_pos h1,if_pos h2] at he;exact h.of r s hr hs he.symm
  ·rw [if_pos h1,if_neg h2] at he;exact h2 (h.fi s j hs hj he).symm
  ·rw [if_neg h1,if_pos h2] at he;exact h1 (h.oi i r hi hr he)
  ·rw [if_neg h1,if_neg h2] at he;exact h.of i j hi hj he
 all:=fun w hw=>by
  rcases h.all w hw with ⟨i,hi,he⟩|⟨j,hj,he⟩
  ·by_cases h1:i=r
   ·exact .inr ⟨s,hs,by rw [a1V,if_pos rfl,←h1];exact he⟩
   ·exact .inl ⟨i,hi,by rw [a8d,if_neg h1];exact he⟩
  ·by_cases h1:j=s
   ·exact .inl ⟨r,hr,by rw [a8d,if_pos rfl,←h1];exact he⟩
   ·exact .inr ⟨j,hj,by rw [a1V,if_neg h1];exact he⟩
 ob:=fun i hi=>by rw [a8d];split;exact h.fb s hs;exact h.ob i hi
 fb:=fun j hj=>by rw [a1V];split;exact h.ob r hr;exact h.fb j hj
def N4 (m n:Nat) (D:Fd) (c:Rat) (t:Nat->Rat) (w:Nat):Rat:=match am3 D.F w n with
 |some j=>t j
 |none=>match am3 D.O w m with
  |some i=>c*D.V i - j8 (fun j=>D.A i j*t j) n
  |none=>0
theorem a0q {m n:Nat} {D:Fd} (h:Y3 m n D) {c:Rat} {t:Nat->Rat} {j:Nat} (hj:j<n):N4 m n D c t (D.F j)=t j:=by
 unfold N4
 cases hi:am3 D.F (D.F j) n with
 |none=>exact absurd rfl (a8m hi j hj)
 |some i=>obtain ⟨h1,h2⟩:=a5D hi;rw [h.fi i j h1 hj h2]
theorem a4b {m n:Nat} {D:Fd} (h:Y3 m n D) {c:Rat} {t:Nat->Rat} {i:Nat} (hi:i<m):N4 m n D c t (D.O i)=c*D.V i - j8 (fun j=>D.A i j*t j) n:=by
 unfold N4
 cases hj:am3 D.F (D.O i) n with
 |some j=>obtain ⟨h1,h2⟩:=a5D hj;exact absurd h2.symm (h.of i j hi h1)
 |none=>
  cases hk:am3 D.O (D.O i) m with
  |none=>exact absurd rfl (a8m hk i hi)
  |some k=>obtain ⟨h1,h2⟩:=a5D hk;rw [h.oi k i h1 hi h2]
theorem V3 {m n:Nat} {D:Fd} (h:Y3 m n D) (c:Rat) (t:Nat->Rat):Ids m n D (N4 m n D c t) c:=fun i hi=>by
 rw [a4b h hi]
 congr 1
 exact i9 fun j hj=>by rw [a0q h hj]
def X5 (f:Nat->Nat) (p:Nat->Bool):Nat->Option Nat
 |0=>none
 |k+1=>match X5 f p k with
  |none=>if p k then some k else none
  |some a=>if p k && decide (f k<f a) then some k else some a
theorem a10 {f:Nat->Nat} {p:Nat->Bool}:∀{k:Nat},X5 f p k=none->∀i,i<k->p i=false
 |0,_,i,hi=>by omega
 |k+1,h,i,hi=>by
  unfold X5 at h
  split at h
  ·rename_i hn
   split at h
   ·cases h
   ·rename_i hp
    by_cases hik:i=k
    ·subst hik;simpa using hp
    ·exact a10 hn i (by omega)
  ·split at h<;>cases h
theorem J3 {f:Nat->Nat} {p:Nat->Bool}:∀{k a:Nat},X5 f p k=some a->a<k∧p a=true∧∀i,i<k->p i=true->f a<=f i
 |0,a,h=>by cases h
 |k+1,a,h=>by
  unfold X5 at h
  split at h
  ·rename_i hn
   split at h
   ·rename_i hp
    injection h with h;subst h
    refine ⟨by omega,hp,fun i hi hpi=>?_⟩
    by_cases hik:i=k
    ·subst hik;omega
    ·rw [a10 hn i (by omega)] at hpi;cases hpi
   ·cases h
  ·rename_i b hb
   obtain ⟨h1,h2,h3⟩:=J3 hb
   split at h
   ·rename_i hc
    injection h with h;subst h
    simp only [lbM,lbI] at hc
    refine ⟨by omega,hc.1,fun i hi hpi=>?_⟩
    by_cases hik:i=k
    ·subst hik;omega
    ·have:=h3 i (by omega) hpi;omega
   ·rename_i hc
    injection h with h;subst h
    refine ⟨by omega,h2,fun i hi hpi=>?_⟩
    by_cases hik:i=k
    ·subst hik
     have:¬(f i<f b):=fun h=>hc (by simp [hpi,h])
     omega
    ·exact h3 i (by omega) hpi
inductive b5S where
 |best
 |row (r:Nat)
 |col (s:Nat)
 |next (r s:Nat)
def a1g (n:Nat) (D:Fd) (r:Nat):b5S:=match X5 D.F (fun j=>decide (D.A r j<0)) n with
 |none=>.row r
 |some s=>.next r s
def a1h (m:Nat) (D:Fd) (s:Nat):b5S:=match X5 D.O (fun i=>decide (0<D.A i s)) m with
 |none=>.col s
 |some r=>.next r s
def F2 (m n:Nat) (D:Fd):b5S:=match X5 D.O (fun i=>decide (D.V i<0)) m,X5 D.F (fun j=>decide (0<D.G j)) n with
 |none,none=>.best
 |some r,none=>a1g n D r
 |none,some s=>a1h m D s
 |some r,some s=>if D.O r<D.F s then a1g n D r else a1h m D s
structure as9 (m n:Nat) (D:Fd) (r s:Nat):Prop where
 v:D.V r<0
 a:D.A r s<0
 f:∀j,j<n->D.F j<D.F s->0<=D.A r j
 o:∀i,i<m->D.O i<D.O r->0<=D.V i
 g:∀j,j<n->D.F j<D.O r->D.G j<=0
structure aw4 (m n:Nat) (D:Fd) (r s:Nat):Prop where
 g:0<D.G s
 a:0<D.A r s
 o:∀i,i<m->D.O i<D.O r->D.A i s<=0
 f:∀j,j<n->D.F j<D.F s->D.G j<=0
 v:∀i,i<m->D.O i<D.F s->0<=D.V i
theorem aN7 {m n:Nat} {D:Fd} {r r' s:Nat} (hr:X5 D.O (fun i=>decide (D.V i<0)) m=some r) (hg:∀j,j<n->D.F j<D.O r->D.G j<=0) (h:a1g n D r=.next r' s):r'<m∧s<n∧as9 m n D r' s:=by
 obtain ⟨a1,a2,a3⟩:=J3 hr
 unfold a1g at h
 split at h
 ·cases h
 ·rename_i s' hs'
  injection h with h1 h2;subst h1;subst h2
  obtain ⟨b1,b2,b3⟩:=J3 hs'
  refine ⟨a1,b1,lbL a2,lbL b2,fun j hj hlt=>?_,fun i hi hlt=>?_,hg⟩
  ·exact lb2.1 fun h=>by have:=b3 j hj (lbH h);omega
  ·exact lb2.1 fun h=>by have:=a3 i hi (lbH h);omega
theorem aS6 {m n:Nat} {D:Fd} {s s' r:Nat} (hs:X5 D.F (fun j=>decide (0<D.G j)) n=some s) (hv:∀i,i<m->D.O i<D.F s->0<=D.V i) (h:a1h m D s=.next r s'):r<m∧s'<n∧aw4 m n D r s':=by
 obtain ⟨a1,a2,a3⟩:=J3 hs
 unfold a1h at h
 split at h
 ·cases h
 ·rename_i r' hr'
  injection h with h1 h2;subst h1;subst h2
  obtain ⟨b1,b2,b3⟩:=J3 hr'
  refine ⟨b1,a1,lbL a2,lbL b2,fun i hi hlt=>?_,fun j hj hlt=>?_,hv⟩
  ·exact lb2.1 fun h=>by have:=b3 i hi (lbH h);omega
  ·exact lb2.1 fun h=>by have:=a3 j hj (lbH h);omega
theorem a5B {m n:Nat} {D:Fd} {r s:Nat} (h:F2 m n D=.next r s):r<m∧s<n∧(as9 m n D r s∨aw4 m n D r s):=by
 unfold F2 at h
 cases hr:X5 D.O (fun i=>decide (D.V i<0)) m with
 |none=>
  have hv:∀i,i<m->0<=D.V i:=fun i hi=>lb2.1 (of_decide_eq_false (a10 hr i hi))
  cases hs:X5 D.F (fun j=>decide (0<D.G j)) n with
  |none=>rw [hr,hs] at h;cases h
  |some s'=>
   rw [hr,hs] at h
   obtain ⟨q1,q2,q3⟩:=aS6 hs (fun i hi _=>hv i hi) h
   exact ⟨q1,q2,.inr q3⟩
 |some r'=>
  obtain ⟨a1,a2,a3⟩:=J3 hr
  cases hs:X5 D.F (fun j=>decide (0<D.G j)) n with
  |none=>
   rw [hr,hs] at h
   obtain ⟨q1,q2,q3⟩:=aN7 (n:=n) hr (fun j hj _=>lb2.1 (of_decide_eq_false (a10 hs j hj))) h
   exact ⟨q1,q2,.inl q3⟩
  |some s'=>
   rw [hr,hs] at h
   obtain ⟨b1,b2,b3⟩:=J3 hs
   simp only at h
   split at h
   ·rename_i hlt
    obtain ⟨q1,q2,q3⟩:=aN7 (n:=n) hr (fun j hj hj2=>lb2.1 fun h=>by have:=b3 j hj (lbH h);omega) h
    exact ⟨q1,q2,.inl q3⟩
   ·rename_i hlt
    obtain ⟨q1,q2,q3⟩:=aS6 hs (fun i hi hi2=>lb2.1 fun h=>by have:=a3 i hi (lbH h);omega) h
    exact ⟨q1,q2,.inr q3⟩
theorem a7h {m n:Nat} {D:Fd} {r s:Nat} (h:as9 m n D r s∨aw4 m n D r s):D.A r s≠0:=by
 rcases h with h|h
 ·have:=h.a;intro h0;rw [h0] at this;exact absurd this (by grind)
 ·have:=h.a;intro h0;rw [h0] at this;exact absurd this (by grind)
theorem b4X {m n:Nat} {D D':Fd} {g0:Nat->Rat} {z z':Rat} (hP:Y3 m n D) (hP':Y3 m n D') (hI:∀y c,Ids m n D y c↔Ids m n D' y c) (hG:a02 n D g0 m z) (hG':a02 n D' g0 m z')
 {r s r' s' q:Nat} (hr:r<m) (hs:s<n) (hr':r'<m) (hs':s'<n) (h:as9 m n D r s∨aw4 m n D r s) (h':as9 m n D' r' s'∨aw4 m n D' r' s') (hq:D.F s=q) (hq':D'.O r'=q)
 (hrq:D.O r<q) (hsq:D'.F s'<q) (hst:∀w,q<w->((∃ j,j<n∧D.F j=w)↔∃j,j<n∧D'.F j=w)):False:=by
 have hfree:∀j,j<n->q<D.F j->∃k,k<n∧D'.F k=D.F j:=fun j hj hlt=>(hst _ hlt).1 ⟨j,hj,rfl⟩
 -- a vector of the second dictionary
 obtain ⟨c,y,hc,hy,ypos,yq,yfree,hobj⟩:∃(c:Rat) (y:Nat->Rat),(c=0∨c=1)∧Ids m n D' y c∧(∀ w,w<n+m->w<q->0<=y w)∧y q<0∧(∀ j,j<n->q<D.F j->y (D.F j)=0)∧
  ((c=0∧0<j8 (fun j=>g0 j*y j) n)∨(c=1∧j8 (fun j=>g0 j*y j) n=z'∧∀j,j<n->D'.F j<q->D'.G j<=0)):=by
  rcases h' with h'|h'
  ·refine ⟨1,N4 m n D' 1 (fun _=>0),.inr rfl,V3 hP' 1 _,fun w hw hwq=>?_,?_,fun j hj hlt=>?_,.inr ⟨rfl,?_,fun j hj hlt=>h'.g j hj (by rw [hq'];exact hlt)⟩⟩
   ·rcases hP'.all w hw with ⟨i,hi,rfl⟩|⟨j,hj,rfl⟩
    ·rw [a4b hP' hi,w9 fun j _=>by grind]
     have:=h'.o i hi (by rw [hq'];exact hwq)
     grind
    ·rw [a0q hP' hj];grind
   ·rw [← hq',a4b hP' hr',w9 fun j _=>by grind]
    have:=h'.v
    grind
   ·obtain ⟨k,hk,he⟩:=hfree j hj hlt
    rw [← he,a0q hP' hk]
   ·rw [hG' _ 1 (V3 hP' 1 _),w9 fun j hj=>by rw [a0q hP' hj];grind];grind
  ·refine ⟨0,N4 m n D' 0 (fun j=>if j=s' then 1 else 0),.inl rfl,V3 hP' 0 _,fun w hw hwq=>?_,?_,fun j hj hlt=>?_,.inl ⟨rfl,?_⟩⟩
   ·have hone:∀i,j8 (fun j=>D'.A i j*(if j=s' then 1 else 0)) n=D'.A i s':=fun i=>by
     rw [E3 hs',w9 fun j _=>by by_cases hj:j=s'<;>simp [hj]]
     simp;grind
    rcases hP'.all w hw with ⟨i,hi,rfl⟩|⟨j,hj,rfl⟩
    ·rw [a4b hP' hi,hone]
     have:=h'.o i hi (by rw [hq'];exact hwq)
     grind
    ·rw [a0q hP' hj];split<;>grind
   ·have hone:j8 (fun j=>D'.A r' j*(if j=s' then 1 else 0)) n=D'.A r' s':=by
     rw [E3 hs',w9 fun j _=>by by_cases hj:j=s'<;>simp [hj]]
     simp;grind
    rw [← hq',a4b hP' hr',hone]
    have:=h'.a
    grind
   ·obtain ⟨k,hk,he⟩:=hfree j hj hlt
    rw [← he,a0q hP' hk,if_neg]
    intro hks
    rw [hks] at he;omega
   ·rw [hG' _ 0 (V3 hP' 0 _)]
    have:j8 (fun j=>D'.G j*N4 m n D' 0 (fun j=>if j=s' then 1 else 0) (D'.F j)) n=D'.G s':=by
     rw [i9 (g:=fun j=>D'.G j*(if j=s' then 1 else 0)) fun j hj=>by rw [a0q hP' hj],E3 hs',w9 fun j _=>by by_cases hj:j=s'<;>simp [hj]]
     simp;grind
    rw [this]
    have:=h'.g
    grind
 have hy2:=(hI y c).2 hy
 -- the terms of the first dictionary
 have hF:∀j,j<n->(D.F j<q∧0<=y (D.F j))∨(j=s∧y (D.F j)<0)∨y (D.F j)=0:=fun j hj=>by
  rcases Nat.lt_trichotomy (D.F j) q with hlt|heq|hgt
  ·exact .inl ⟨hlt,ypos _ (hP.fb j hj) hlt⟩
  ·refine .inr (.inl ⟨hP.fi j s hj hs (by omega),by rw [heq];exact yq⟩)
  ·exact .inr (.inr (yfree j hj hgt))
 rcases h with h|h
 · -- by its row
   have hid:=hy2 r hr
   have h1:0<j8 (fun j=>D.A r j*y (D.F j)) n:=b8u (s:=s) (fun j hj=>by
    rcases hF j hj with ⟨a,b⟩|⟨rfl,b⟩|b
    ·exact lb0 (h.f j hj (by rw [hq];exact a)) b
    ·have:=h.a;exact Rat.le_of_lt (by have:=Rat.mul_pos (a:=-D.A r j) (b:=-y (D.F j)) (by grind) (by grind);grind)
    ·rw [b];grind) hs (by
    have:=h.a
    have hyq:y (D.F s)<0:=by rw [hq];exact yq
    have:=Rat.mul_pos (a:=-D.A r s) (b:=-y (D.F s)) (by grind) (by grind);grind)
   have h2:0<=y (D.O r):=ypos _ (hP.ob r hr) hrq
   have h3:=h.v
   rcases hc with rfl|rfl
   ·grind
   ·grind
 · -- by its goal
   have h1:j8 (fun j=>D.G j*y (D.F j)) n<0:=b8L (s:=s) (fun j hj=>by
    rcases hF j hj with ⟨a,b⟩|⟨rfl,b⟩|b
    ·have:=h.f j hj (by rw [hq];exact a)
     have:=lb0 (a:=-D.G j) (b:=y (D.F j)) (by grind) b
     grind
    ·have:=h.g
     have:=Rat.mul_pos (a:=D.G j) (b:=-y (D.F j)) (by grind) (by grind)
     grind
    ·rw [b];grind) hs (by
    have:=h.g
    have hyq:y (D.F s)<0:=by rw [hq];exact yq
    have:=Rat.mul_pos (a:=D.G s) (b:=-y (D.F s)) (by grind) (by grind)
    grind)
   have hg:=hG y c hy2
   rcases hobj with ⟨rfl,ho⟩|⟨rfl,ho,hneg⟩
   ·grind
   · -- the basic point of the first dictionary
     have k1:=hG (N4 m n D 1 (fun _=>0)) 1 (V3 hP 1 _)
     rw [w9 (f:=fun j=>D.G j*N4 m n D 1 (fun _=>0) (D.F j)) fun j hj=>by rw [a0q hP hj];grind] at k1
     have k2:=hG' (N4 m n D 1 (fun _=>0)) 1 ((hI _ 1).1 (V3 hP 1 _))
     have k3:j8 (fun j=>D'.G j*N4 m n D 1 (fun _=>0) (D'.F j)) n<=0:=a9y fun j hj=>by
      have hv:∀w,w<n+m->w<q->0<=N4 m n D 1 (fun _=>0) w:=fun w hw hwq=>by
       rcases hP.all w hw with ⟨i,hi,rfl⟩|⟨k,hk,rfl⟩
       ·rw [a4b hP hi,w9 fun j _=>by grind]
        have:=h.v i hi (by rw [hq];exact hwq)
        grind
       ·rw [a0q hP hk];grind
      rcases Nat.lt_trichotomy (D'.F j) q with hlt|heq|hgt
      ·have a1:=hneg j hj hlt
       have a2:=hv _ (hP'.fb j hj) hlt
       have:=lb0 (a:=-D'.G j) (by grind) a2
       grind
      ·exact absurd (hq'.trans heq.symm) (hP'.of r' j hr' hj)
      ·obtain ⟨k,hk,he⟩:=(hst _ hgt).2 ⟨j,hj,rfl⟩
       rw [← he,a0q hP hk];grind
     grind
def I4 (m n:Nat) (D:Fd):Option Fd:=match F2 m n D with
 |.next r s=>some (D.exch r s)
 |_=>none
theorem a6B {m n:Nat} {D D':Fd} (h:I4 m n D=some D'):∃r s,F2 m n D=.next r s∧D'=D.exch r s:=by
 unfold I4 at h
 split at h
 ·rename_i r s hs;injection h with h;exact ⟨r,s,hs,h.symm⟩
 ·cases h
theorem ai9 {P:Nat->Nat->Prop}:∀N:Nat,(∀ w,w<N->∃T,∀k,T<=k->¬P k w)->∃T,∀w,w<N->∀k,T<=k->¬P k w
 |0,_=>⟨0,fun w hw=>by omega⟩
 |N+1,h=>by
  obtain ⟨T,hT⟩:=ai9 (P:=P) N fun w hw=>h w (by omega)
  obtain ⟨T',hT'⟩:=h N (by omega)
  refine ⟨max T T',fun w hw k hk=>?_⟩
  by_cases hwn:w=N
  ·subst hwn;exact hT' k (by omega)
  ·exact hT w (by omega) k (by omega)
theorem ak6 {p:Nat->Prop}:∀N:Nat,(∃ w,w<N∧p w)->∃q,q<N∧p q∧∀w,q<w->w<N->¬p w
 |0,⟨w,hw,_⟩=>by omega
 |N+1,⟨w,hw,hp⟩=>by
  by_cases h:p N
  ·exact ⟨N,by omega,h,fun w h1 h2=>by omega⟩
  ·have hwN:w≠N:=fun e=>h (e ▸ hp)
   obtain ⟨q,h1,h2,h3⟩:=ak6 N ⟨w,by omega,hp⟩
   refine ⟨q,by omega,h2,fun w h4 h5=>?_⟩
   by_cases hw2:w=N
   ·subst hw2;exact h
   ·exact h3 w h4 (by omega)
theorem a3D (p:Nat->Prop) (h:∃n,p n):∃n,p n∧∀m,p m->n<=m:=by
 obtain ⟨n,hn⟩:=h
 induction n using Nat.strongRecOn with
 |_ n ih=>
  by_cases hex:∃m,m<n∧p m
  ·obtain ⟨m,hm,hp⟩:=hex
   exact ih m hm hp
  ·exact ⟨n,hn,fun m hm=>Nat.le_of_not_lt fun h=>hex ⟨m,h,hm⟩⟩
theorem b9q {m n:Nat} {f:Nat->Fd} {g0:Nat->Rat} (hP0:Y3 m n (f 0)) (hG0:∃z,a02 n (f 0) g0 m z) (hf:∀k,I4 m n (f k)=some (f (k+1))):False:=by
 have hstep:∀k,∃rs:Nat × Nat,rs.1<m∧rs.2<n∧(as9 m n (f k) rs.1 rs.2∨aw4 m n (f k) rs.1 rs.2)∧f (k+1)=(f k).exch rs.1 rs.2:=fun k=>by
  obtain ⟨r,s,h1,h2⟩:=a6B (hf k)
  obtain ⟨a,b,c⟩:=a5B h1
  exact ⟨(r,s),a,b,c,h2⟩
 obtain ⟨W,hW⟩:=Classical.axiomOfChoice hstep
 have hP:∀k,Y3 m n (f k):=fun k=>by
  induction k with
  |zero=>exact hP0
  |succ k ih=>obtain ⟨a,b,_,d⟩:=hW k;rw [d];exact aq6 a b ih
 have hI:∀k y c,Ids m n (f 0) y c↔Ids m n (f k) y c:=fun k=>by
  induction k with
  |zero=>exact fun _ _=>Iff.rfl
  |succ k ih=>obtain ⟨a,b,c',d⟩:=hW k;rw [d];exact fun y c=>(ih y c).trans (ae0 a b (a7h c'))
 have hG:∀k,∃z,a02 n (f k) g0 m z:=fun k=>by
  induction k with
  |zero=>exact hG0
  |succ k ih=>obtain ⟨a,b,c',d⟩:=hW k;obtain ⟨z,hz⟩:=ih;rw [d];exact ⟨_,as7 a b (a7h c') hz⟩
 let E:Nat->Nat:=fun k=>(f k).F (W k).2
 let L:Nat->Nat:=fun k=>(f k).O (W k).1
 have hE:∀k,E k<n+m:=fun k=>(hP k).fb _ (hW k).2.1
 have hL:∀k,L k<n+m:=fun k=>(hP k).ob _ (hW k).1
 have hEL:∀k,L k≠E k:=fun k=>(hP k).of _ _ (hW k).1 (hW k).2.1
 let fre:Nat->Nat->Prop:=fun k w=>∃j,j<n∧(f k).F j=w
 have hfre:∀k w,w≠E k->w≠L k->(fre (k+1) w↔fre k w):=fun k w h1 h2=>by
  obtain ⟨a,b,_,d⟩:=hW k
  show (∃ j,j<n∧(f (k+1)).F j=w)↔∃j,j<n∧(f k).F j=w
  rw [d]
  constructor
  ·rintro ⟨j,hj,he⟩
   rw [a1V] at he
   by_cases hjs:j=(W k).2
   ·rw [if_pos hjs] at he;exact absurd he.symm h2
   ·rw [if_neg hjs] at he;exact ⟨j,hj,he⟩
  ·rintro ⟨j,hj,he⟩
   have hjs:j≠(W k).2:=fun h=>h1 (by rw [← he,h])
   exact ⟨j,hj,by rw [a1V,if_neg hjs];exact he⟩
 have hin:∀k,fre k (E k):=fun k=>⟨_,(hW k).2.1,rfl⟩
 have hout:∀k,¬fre k (L k):=fun k=>by rintro ⟨j,hj,he⟩;exact (hP k).of _ _ (hW k).1 hj he.symm
 have hin2:∀k,fre (k+1) (L k):=fun k=>by
  obtain ⟨a,b,_,d⟩:=hW k
  show ∃j,j<n∧(f (k+1)).F j=L k
  rw [d];exact ⟨_,b,by rw [a1V,if_pos rfl]⟩
 have hout2:∀k,¬fre (k+1) (E k):=fun k=>by
  obtain ⟨a,b,_,d⟩:=hW k
  show ¬∃j,j<n∧(f (k+1)).F j=E k
  rw [d]
  rintro ⟨j,hj,he⟩
  rw [a1V] at he
  by_cases hjs:j=(W k).2
  ·rw [if_pos hjs] at he;exact hEL k he
  ·rw [if_neg hjs] at he;exact hjs ((hP k).fi _ _ hj b he)
 let mv:Nat->Nat->Prop:=fun k w=>E k=w∨L k=w
 obtain ⟨q,hqN,hio,hmax⟩:=ak6 (p:=fun w=>∀T,∃k,T<=k∧mv k w) (n+m) (a1f fun hno=>by
  have h1:∀w,w<n+m->∃T,∀k,T<=k->¬mv k w:=fun w hw=>a1f fun h=>hno ⟨w,hw,fun T=>a1f fun h'=>h ⟨T,fun k hk hm=>h' ⟨k,hk,hm⟩⟩⟩
  obtain ⟨T,hT⟩:=ai9 (P:=mv) _ h1
  exact hT _ (hE T) T (lbQ _) (.inl rfl))
 obtain ⟨T,hT⟩:∃T,∀w,q<w->∀k,T<=k->¬mv k w:=by
  obtain ⟨T,hT⟩:=ai9 (P:=fun k w=>q<w∧mv k w) (n+m) fun w hw=>by
   by_cases hqw:q<w
   ·have:=hmax w hqw hw
    obtain ⟨T,hT⟩:=Classical.not_forall.1 this
    exact ⟨T,fun k hk ⟨_,hm⟩=>hT ⟨k,hk,hm⟩⟩
   ·exact ⟨0,fun k _ ⟨h,_⟩=>hqw h⟩
  refine ⟨T,fun w hqw k hk hm=>?_⟩
  have hw:w<n+m:=by rcases hm with hm|hm<;>rw [← hm];exact hE k;exact hL k
  exact hT w hw k hk ⟨hqw,hm⟩
 have hEq:∀k,T<=k->E k<=q:=fun k hk=>Nat.le_of_not_lt fun h=>hT _ h k hk (.inl rfl)
 have hLq:∀k,T<=k->L k<=q:=fun k hk=>Nat.le_of_not_lt fun h=>hT _ h k hk (.inr rfl)
 have hconst:∀w,q<w->∀d,fre (T+d) w↔fre T w:=fun w hw d=>by
  induction d with
  |zero=>exact Iff.rfl
  |succ d ih=>
   have h1:=hEq (T+d) (by omega)
   have h2:=hLq (T+d) (by omega)
   exact (hfre (T+d) w (by omega) (by omega)).trans ih
 have hsame:∀w,q<w->∀t u,T<=t->T<=u->(fre t w↔fre u w):=fun w hw t u ht hu=>by
  have h1:=hconst w hw (t - T)
  have h2:=hconst w hw (u - T)
  rw [show T+(t - T)=t by omega] at h1
  rw [show T+(u - T)=u by omega] at h2
  exact h1.trans h2.symm
 -- q enters at some time, and leaves at some time
 have hnext:∀k1,T<=k1->mv k1 q->∃k2,T<=k2∧mv k2 q∧(fre k2 q↔fre (k1+1) q):=fun k1 h1 _=>by
  obtain ⟨k2,⟨h2,h3⟩,hleast⟩:=a3D (fun k=>k1+1<=k∧mv k q) (hio (k1+1))
  refine ⟨k2,by omega,h3,?_⟩
  have key:∀d,k1+1+d<=k2->(fre (k1+1+d) q↔fre (k1+1) q):=fun d=>by
   induction d with
   |zero=>exact fun _=>Iff.rfl
   |succ d ih=>
    intro hd
    have hnm:¬mv (k1+1+d) q:=fun h=>by have:=hleast (k1+1+d) ⟨by omega,h⟩;omega
    exact (hfre (k1+1+d) q (fun h=>hnm (.inl h.symm)) (fun h=>hnm (.inr h.symm))).trans (ih (by omega))
  have:=key (k2 - (k1+1)) (by omega)
  rwa [show k1+1+(k2 - (k1+1))=k2 by omega] at this
 have hboth:∃t u,T<=t∧T<=u∧E t=q∧L u=q:=by
  obtain ⟨k1,h1,hm1⟩:=hio T
  obtain ⟨k2,h2,hm2,hs⟩:=hnext k1 h1 hm1
  rcases hm1 with hm1|hm1
  ·rcases hm2 with hm2|hm2
   ·have a:=hin k2
    rw [hm2] at a
    have b:=hout2 k1
    rw [hm1] at b
    exact absurd (hs.1 a) b
   ·exact ⟨k1,k2,h1,h2,hm1,hm2⟩
  ·rcases hm2 with hm2|hm2
   ·exact ⟨k2,k1,h2,h1,hm2,hm1⟩
   ·have a:=hout k2
    rw [hm2] at a
    have b:=hin2 k1
    rw [hm1] at b
    exact absurd (hs.2 b) a
 obtain ⟨t,u,ht,hu,het,hlu⟩:=hboth
 obtain ⟨z,hz⟩:=hG t
 obtain ⟨z',hz'⟩:=hG u
 obtain ⟨a1,a2,a3,_⟩:=hW t
 obtain ⟨b1,b2,b3,_⟩:=hW u
 have hl:L t<q:=by have:=hLq t ht;have:=hEL t;omega
 have he:E u<q:=by have:=hEq u hu;have:=hEL u;omega
 exact b4X (hP t) (hP u) (fun y c=>(hI t y c).symm.trans (hI u y c)) hz hz' a1 a2 b1 b2 a3 b3 het hlu hl he (fun w hw=>hsame w hw t u ht hu)
def itS (m n:Nat):Nat->Fd->Option Fd
 |0,D=>some D
 |k+1,D=>match I4 m n D with
  |none=>none
  |some D'=>itS m n k D'
theorem a0e {m n:Nat}:∀(k:Nat) (D:Fd),itS m n (k+1) D=(itS m n k D).bind (I4 m n)
 |0,D=>by
  show (match I4 m n D with|none=>none|some D'=>some D')=I4 m n D
  cases I4 m n D<;>rfl
 |k+1,D=>by
  show (match I4 m n D with|none=>none|some D'=>itS m n (k+1) D')=(match I4 m n D with|none=>none|some D'=>itS m n k D').bind (I4 m n)
  cases I4 m n D with
  |none=>rfl
  |some D'=>exact a0e k D'
theorem b97 {m n:Nat} {D:Fd} {g0:Nat->Rat} (hP:Y3 m n D) (hG:∃z,a02 n D g0 m z):∃k,itS m n k D=none:=a1f fun h=>by
 have h1:∀k,∃D',itS m n k D=some D':=fun k=>by
  cases hk:itS m n k D with
  |none=>exact absurd ⟨k,hk⟩ h
  |some D'=>exact ⟨D',rfl⟩
 obtain ⟨f,hf⟩:=Classical.axiomOfChoice h1
 have hf:∀k,itS m n k D=some (f k):=hf
 have h0:f 0=D:=by have:=hf 0;injection this with this;exact this.symm
 refine b9q (f:=f) (g0:=g0) (by rw [h0];exact hP) (by rw [h0];exact hG) fun k=>?_
 have h2:=a0e (m:=m) (n:=n) k D
 rw [hf k,hf (k+1)] at h2
 exact h2.symm
noncomputable def a92 (m n:Nat) (D:Fd):Nat:=Classical.epsilon fun k=>itS m n k D=none∧∀j,itS m n j D=none->k<=j
theorem b0s {m n:Nat} {D D':Fd} (h:∃k,itS m n k D=none) (hn:I4 m n D=some D'):a92 m n D'<a92 m n D:=by
 have hD:=Classical.epsilon_spec (a3D _ h)
 have h':∃k,itS m n k D'=none:=by
  obtain ⟨k,hk⟩:=h
  cases k with
  |zero=>cases hk
  |succ k=>
   have hk:(match I4 m n D with|none=>none|some D'=>itS m n k D')=none:=hk
   rw [hn] at hk;exact ⟨k,hk⟩
 have hD':=Classical.epsilon_spec (a3D _ h')
 have e:a92 m n D=Classical.epsilon fun k=>itS m n k D=none∧∀j,itS m n j D=none->k<=j:=rfl
 have e':a92 m n D'=Classical.epsilon fun k=>itS m n k D'=none∧∀j,itS m n j D'=none->k<=j:=rfl
 rw [← e] at hD
 rw [← e'] at hD'
 obtain ⟨a1,a2⟩:=hD
 obtain ⟨b1,b2⟩:=hD'
 generalize a92 m n D=k at a1 a2
 cases k with
 |zero=>cases a1
 |succ k=>
  have a1:(match I4 m n D with|none=>none|some D'=>itS m n k D')=none:=a1
  rw [hn] at a1
  have:=b2 k a1
  omega
structure EqI where
 co:Nat->Int
 rhs:Int
def a8t (k:Nat) (e:EqI) (u:Nat->Rat):Prop:=j8 (fun l=>((e.co l:Int):Rat)*u l) (k+1)=((e.rhs:Int):Rat)
theorem b8y {f g:Nat->Rat} (a b:Rat) (n:Nat):j8 (fun j=>a*f j - b*g j) n=a*j8 f n - b*j8 g n:=by
 rw [← G5 a,←G5 b]
 have:j8 (fun j=>a*f j - b*g j) n=j8 (fun j=>a*f j+(-1)*(b*g j)) n:=i9 fun j _=>by grind
 rw [this,a1r,G5 (-1)];grind
def ag2 (k:Nat) (e0 e:EqI):EqI:=⟨fun l=>e0.co (k+1)*e.co l - e.co (k+1)*e0.co l,e0.co (k+1)*e.rhs - e.co (k+1)*e0.rhs⟩
theorem aS3 {k:Nat} {e0 e:EqI} {u:Nat->Rat}:j8 (fun l=>(((ag2 k e0 e).co l:Int):Rat)*u l) (k+1)=
 ((e0.co (k+1):Int):Rat)*j8 (fun l=>((e.co l:Int):Rat)*u l) (k+1) - ((e.co (k+1):Int):Rat)*j8 (fun l=>((e0.co l:Int):Rat)*u l) (k+1):=by
 rw [← b8y]
 refine i9 fun l _=>?_
 unfold ag2
 simp only
 rw [Rat.intCast_sub,Rat.intCast_mul,Rat.intCast_mul];grind
theorem aL4 {k:Nat} {e0 e:EqI}:(((ag2 k e0 e).rhs:Int):Rat)=((e0.co (k+1):Int):Rat)*((e.rhs:Int):Rat) - ((e.co (k+1):Int):Rat)*((e0.rhs:Int):Rat):=by
 unfold ag2
 simp only
 rw [Rat.intCast_sub,Rat.intCast_mul,Rat.intCast_mul]
theorem b8E {k:Nat} {e0 e:EqI} {s:Nat} (h0:(∀ l,l<=k+1->bl (e0.co l)<=s)∧bl e0.rhs<=s) (h:(∀ l,l<=k+1->bl (e.co l)<=s)∧bl e.rhs<=s):(∀ l,l<=k->bl ((ag2 k e0 e).co l)<=2*s+1)∧bl (ag2 k e0 e).rhs<=2*s+1:=by
 have key:∀a b c d:Int,bl a<=s->bl b<=s->bl c<=s->bl d<=s->bl (a*b - c*d)<=2*s+1:=fun a b c d ha hb hc hd=>by
  have h1:=S0 a b
  have h2:=S0 c d
  have h3:=aD5 (a*b) (-(c*d))
  rw [a47,←Int.sub_eq_add_neg] at h3
  omega
 exact ⟨fun l hl=>key _ _ _ _ (h0.1 _ (by omega)) (h.1 _ (by omega)) (h.1 _ (by omega)) (h0.1 _ (by omega)),key _ _ _ _ (h0.1 _ (by omega)) h.2 (h.1 _ (by omega)) h0.2⟩
theorem a6E:∀(k s:Nat) (E:List EqI) (u:Nat->Rat),(∀ e ∈ E,(∀ l,l<=k->bl (e.co l)<=s)∧bl e.rhs<=s)->(∀ e ∈ E,a8t k e u)->(∀ u',(∀ e ∈ E,a8t k e u')->u' 0=u 0)->rl (u 0)<=2 ^ k*(s+1)
 |0,s,E,u,hb,hu,hq=>by
  by_cases hex:∃e ∈ E,e.co 0≠0
  ·obtain ⟨e,he,hc⟩:=hex
   have h1:((0:Int):Rat)+((e.co 0:Int):Rat)*u 0=((e.rhs:Int):Rat):=hu e he
   have hne:((e.co 0:Int):Rat)≠0:=fun h=>hc (by exact_mod_cast h)
   have h2:u 0=Rat.divInt e.rhs (e.co 0):=by
    rw [Rat.divInt_eq_div,←h1]
    have:((0:Int):Rat)=0:=rfl
    rw [this];grind
   rw [h2]
   have h3:=(hb e he).1 0 (lbQ _)
   have h4:=(hb e he).2
   have:=a0w (p:=e.rhs) (q:=e.co 0) hc
   omega
  ·have hz:∀e ∈ E,e.co 0=0:=fun e he=>a1f fun h=>hex ⟨e,he,h⟩
   have:=hq (fun _=>u 0+1) fun e he=>by
    have h1:((0:Int):Rat)+((e.co 0:Int):Rat)*u 0=((e.rhs:Int):Rat):=hu e he
    show ((0:Int):Rat)+((e.co 0:Int):Rat)*(u 0+1)=((e.rhs:Int):Rat)
    rw [← h1,hz e he]
    have:((0:Int):Rat)=0:=rfl
    rw [this];grind
   grind
 |k+1,s,E,u,hb,hu,hq=>by
  have hlast:∀(e:EqI) (v:Nat->Rat),j8 (fun l=>((e.co l:Int):Rat)*v l) (k+1+1)=j8 (fun l=>((e.co l:Int):Rat)*v l) (k+1)+((e.co (k+1):Int):Rat)*v (k+1):=fun e v=>rfl
  by_cases hex:∃e ∈ E,e.co (k+1)≠0
  ·obtain ⟨e0,he0,hc⟩:=hex
   have hne:((e0.co (k+1):Int):Rat)≠0:=fun h=>hc (by exact_mod_cast h)
   have ih:=a6E k (2*s+1) (E.map (ag2 k e0)) u (fun e he=>by
    obtain ⟨e1,he1,rfl⟩:=lbx.1 he
    exact b8E (hb e0 he0) (hb e1 he1)) (fun e he=>by
    obtain ⟨e1,he1,rfl⟩:=lbx.1 he
    have a1:j8 _ (k+1+1)=_:=hu e0 he0
    have a2:j8 _ (k+1+1)=_:=hu e1 he1
    rw [hlast] at a1 a2
    unfold a8t
    rw [aS3,aL4,←a1,←a2];grind) (fun u' hu'=>by
    have hnew:=hq (fun l=>if l=k+1 then (((e0.rhs:Int):Rat) - j8 (fun l=>((e0.co l:Int):Rat)*u' l) (k+1)) / ((e0.co (k+1):Int):Rat) else u' l) fun e he=>by
     have b1:=hu' _ (lbx.2 ⟨e,he,rfl⟩)
     unfold a8t at b1 ⊢
     rw [aS3,aL4] at b1
     rw [hlast,i9 (g:=fun l=>((e.co l:Int):Rat)*u' l) fun l hl=>by rw [if_neg (by omega)],if_pos rfl]
     generalize j8 (fun l=>((e.co l:Int):Rat)*u' l) (k+1)=X at *
     generalize j8 (fun l=>((e0.co l:Int):Rat)*u' l) (k+1)=Y at *
     generalize ((e0.co (k+1):Int):Rat)=c at *
     generalize ((e.co (k+1):Int):Rat)=d at *
     generalize ((e.rhs:Int):Rat)=r at *
     generalize ((e0.rhs:Int):Rat)=r0 at *
     have h1:c*(X+d*((r0 - Y) / c))=c*r:=by
      have:c*((r0 - Y) / c)=r0 - Y:=by grind
      have h2:c*(X+d*((r0 - Y) / c))=c*X+d*(c*((r0 - Y) / c)):=by grind
      rw [h2,this];grind
     grind
    rw [if_neg (by omega)] at hnew
    exact hnew)
   have e1:2 ^ (k+1)*(s+1)=2 ^ k*(2*s+1+1):=by rw [Nat.pow_succ,Nat.mul_assoc,show 2*(s+1)=2*s+1+1 by omega]
   rw [e1];exact ih
  ·have hz:∀e ∈ E,e.co (k+1)=0:=fun e he=>a1f fun h=>hex ⟨e,he,h⟩
   have hiff:∀e ∈ E,∀v,a8t (k+1) e v↔a8t k e v:=fun e he v=>by
    unfold a8t
    rw [hlast,hz e he]
    have:((0:Int):Rat)=0:=rfl
    rw [this]
    constructor
    ·intro h;rw [← h];grind
    ·intro h;rw [← h];grind
   have ih:=a6E k s E u (fun e he=>⟨fun l hl=>(hb e he).1 l (by omega),(hb e he).2⟩) (fun e he=>(hiff e he u).1 (hu e he)) fun u' hu'=>hq u' fun e he=>(hiff e he u').2 (hu' e he)
   have:2 ^ k<=2 ^ (k+1):=Nat.pow_le_pow_right (by decide) (by omega)
   exact lbR ih (lbT _ this)
structure a7P (m n s:Nat) (D:Fd):Prop where
 o:∀i,i<m->D.O i=n+i
 f:∀j,j<n->D.F j=j
 w:∀i,i<m->∃(q v:Int) (a:Nat->Int),q≠0∧bl q<=s∧bl v<=s∧(∀ j,j<n->bl (a j)<=s)∧((q:Int):Rat)*D.V i=((v:Int):Rat)∧∀j,j<n->((q:Int):Rat)*D.A i j=((a j:Int):Rat)
theorem a5C (x:Int):bl (-x)=bl x:=by unfold bl;rw [Int.natAbs_neg]
theorem b4s (x y:Int):bl (x - y)<=max (bl x) (bl y)+1:=by
 have:=aD5 x (-y)
 rw [a5C] at this
 rw [Int.sub_eq_add_neg];exact this
theorem au7 {f:Nat->Rat}:∀n:Nat,j8 f (n+1)=f 0+j8 (fun l=>f (l+1)) n
 |0=>by simp only [j8];grind
 |n+1=>by
  have ih:=au7 (f:=f) n
  have e:j8 f (n+1+1)=j8 f (n+1)+f (n+1):=rfl
  rw [e,ih]
  simp only [j8];grind
def b3d (q0:Int) (b:Nat->Int) (r:Int):EqI:=⟨fun l=>match l with|0=>q0|l+1=>b l,r⟩
theorem ad6 {n:Nat} {q0 r:Int} {b:Nat->Int} {u:Nat->Rat}:a8t n (b3d q0 b r) u↔((q0:Int):Rat)*u 0+j8 (fun l=>((b l:Int):Rat)*u (l+1)) n=((r:Int):Rat):=by
 unfold a8t b3d
 simp only
 rw [au7]
theorem a3Y {n v:Nat} {u:Nat->Rat} (hv:v<n):j8 (fun l=>(((if l=v then (1:Int) else 0):Int):Rat)*u l) n=u v:=by
 rw [E3 hv,w9 fun j hj=>?_]
 ·simp only [if_true]
  have:((1:Int):Rat)=1:=rfl
  rw [this];grind
 ·by_cases h:j=v
  ·simp only [h,if_true]
  ·simp only [if_neg h]
   have:((0:Int):Rat)=0:=rfl
   rw [this];grind
theorem b92 {s:Nat} (hs:1<=s) (b:Prop) [Decidable b]:bl (if b then (1:Int) else 0)<=s:=by
 split
 ·exact lbR (B5 (by decide) (by decide)) hs
 ·exact lbR (B5 (by decide) (by decide)) hs
theorem a50 {m n s:Nat} {D0 D:Fd} (h0:a7P m n s D0) (hs:1<=s) (hP:Y3 m n D) (hI:∀y c,Ids m n D0 y c↔Ids m n D y c) {c:Int} {t:Nat->Int} (hc:c=0∨c=1) (ht:∀j,t j=0∨t j=1)
 {q r:Int} {b:Nat->Int} {φ:Rat} (hq:q≠0) (hqs:bl q<=s) (hr:bl r<=s) (hb:∀l,l<n->bl (b l)<=s)
 (hφ:((q:Int):Rat)*φ=((r:Int):Rat)*((c:Int):Rat)+j8 (fun l=>((b l:Int):Rat)*N4 m n D ((c:Int):Rat) (fun j=>((t j:Int):Rat)) l) n):rl φ<=2 ^ n*(s+2):=by
 obtain ⟨y,hy⟩:∃y,y=N4 m n D ((c:Int):Rat) (fun j=>((t j:Int):Rat)):=⟨_,rfl⟩
 rw [← hy] at hφ
 have hyD:Ids m n D y ((c:Int):Rat):=by rw [hy];exact V3 hP _ _
 have hy0:=(hI y _).2 hyD
 have hyF:∀j,j<n->y (D.F j)=((t j:Int):Rat):=fun j hj=>by rw [hy];exact a0q hP hj
 -- the equations of the columns
 have eqs:∀j,j<n->∃e:EqI,(∀ l,l<=n->bl (e.co l)<=s+1)∧bl e.rhs<=s+1∧
  ∀(y' u':Nat->Rat),(∀ l,l<n->u' (l+1)=y' l)->Ids m n D0 y' ((c:Int):Rat)->(a8t n e u'↔y' (D.F j)=((t j:Int):Rat)):=by
  intro j hj
  have htb:bl (t j)<=1:=by rcases ht j with h|h<;>rw [h]<;>exact B5 (by decide) (by decide)
  by_cases hv:D.F j<n
  ·refine ⟨b3d 0 (fun l=>if l=D.F j then 1 else 0) (t j),fun l hl=>?_,lbR htb (by omega),fun y' u' hu hy'=>?_⟩
   ·cases l with
    |zero=>exact lbR (B5 (x:=0) (by decide) (by decide)) (by omega)
    |succ l=>exact b92 (by omega) _
   ·rw [ad6]
    rw [i9 (g:=fun l=>(((if l=D.F j then (1:Int) else 0):Int):Rat)*y' l) fun l hl=>by rw [hu l hl],a3Y hv]
    have:((0:Int):Rat)=0:=rfl
    rw [this]
    constructor<;>intro h<;>grind
  ·have hb1:=hP.fb j hj
   obtain ⟨i,hi⟩:∃i,D.F j=n+i:=⟨D.F j - n,by omega⟩
   have him:i<m:=by omega
   obtain ⟨qi,vi,ai,q1,q2,q3,q4,q5,q6⟩:=h0.w i him
   have hrhs:bl (vi*c - qi*t j)<=s+1:=by
    have h1:bl (vi*c)<=s:=by rcases hc with h|h<;>rw [h]<;>simp<;>first|exact q3|exact lbR (B5 (x:=0) (by decide) (by decide)) hs
    have h2:bl (qi*t j)<=s:=by rcases ht j with h|h<;>rw [h]<;>simp<;>first|exact q2|exact lbR (B5 (x:=0) (by decide) (by decide)) hs
    have:=b4s (vi*c) (qi*t j)
    omega
   refine ⟨b3d 0 ai (vi*c - qi*t j),fun l hl=>?_,hrhs,fun y' u' hu hy'=>?_⟩
   ·cases l with
    |zero=>exact lbR (B5 (x:=0) (by decide) (by decide)) (by omega)
    |succ l=>exact lbR (q4 l (by omega)) (by omega)
   ·rw [ad6,hi]
    have hid:=hy' i him
    rw [h0.o i him] at hid
    have hsum:j8 (fun l=>((ai l:Int):Rat)*u' (l+1)) n=((qi:Int):Rat)*j8 (fun j=>D0.A i j*y' (D0.F j)) n:=by
     rw [← G5]
     refine i9 fun l hl=>?_
     rw [hu l hl,h0.f l hl,←q6 l hl];grind
    rw [hsum]
    have e0:((0:Int):Rat)=0:=rfl
    have e1:((vi*c - qi*t j:Int):Rat)=((vi:Int):Rat)*((c:Int):Rat) - ((qi:Int):Rat)*((t j:Int):Rat):=by push_cast;rfl
    rw [e0,e1,←q5]
    have hqn:((qi:Int):Rat)≠0:=by intro h;exact q1 (by exact_mod_cast h)
    constructor
    ·intro h
     have:((qi:Int):Rat)*(y' (n+i) - ((t j:Int):Rat))=0:=by rw [hid];grind
     have:=(Rat.mul_eq_zero.1 this).resolve_left hqn
     grind
    ·intro h
     rw [← h,hid];grind
 -- the equation of the value
 obtain ⟨E,hE⟩:∃E:Nat->EqI,∀j,(hj:j<n)->E j=Classical.choose (eqs j hj):=⟨fun j=>if hj:j<n then Classical.choose (eqs j hj) else ⟨fun _=>0,0⟩,fun j hj=>by simp [hj]⟩
 have hEs:∀j,j<n->(∀ l,l<=n->bl ((E j).co l)<=s+1)∧bl (E j).rhs<=s+1∧
  ∀(y' u':Nat->Rat),(∀ l,l<n->u' (l+1)=y' l)->Ids m n D0 y' ((c:Int):Rat)->(a8t n (E j) u'↔y' (D.F j)=((t j:Int):Rat)):=fun j hj=>by
  rw [hE j hj];exact Classical.choose_spec (eqs j hj)
 let e0:EqI:=b3d q (fun l=>0 - b l) (r*c)
 have he0:∀(y' u':Nat->Rat),(∀ l,l<n->u' (l+1)=y' l)->(a8t n e0 u'↔((q:Int):Rat)*u' 0=((r:Int):Rat)*((c:Int):Rat)+j8 (fun l=>((b l:Int):Rat)*y' l) n):=by
  intro y' u' hu
  show a8t n (b3d q (fun l=>0 - b l) (r*c)) u'↔_
  rw [ad6]
  have e1:j8 (fun l=>(((0 - b l:Int)):Rat)*u' (l+1)) n=0 - j8 (fun l=>((b l:Int):Rat)*y' l) n:=by
   have:j8 (fun l=>(((0 - b l:Int)):Rat)*u' (l+1)) n=j8 (fun l=>(-1:Rat)*(((b l:Int):Rat)*y' l)) n:=i9 fun l hl=>by
    rw [hu l hl];push_cast;grind
   rw [this,G5];grind
  rw [e1]
  have e2:((r*c:Int):Rat)=((r:Int):Rat)*((c:Int):Rat):=by push_cast;rfl
  rw [e2]
  constructor<;>intro h<;>grind
 let u:Nat->Rat:=fun l=>match l with|0=>φ|l+1=>y l
 have hu:∀l,l<n->u (l+1)=y l:=fun l _=>rfl
 have key:=a6E n (s+1) (e0::(List.range n).map E) u (fun e he=>?_) (fun e he=>?_) (fun u' hu'=>?_)
 ·exact key
 ·rcases lbA.1 he with rfl|he
  ·refine ⟨fun l hl=>?_,?_⟩
   ·cases l with
    |zero=>exact lbR hqs (by omega)
    |succ l=>
     show bl (0 - b l)<=s+1
     have:=hb l (by omega)
     have h1:=b4s 0 (b l)
     have h2:=B5 (x:=0) (by decide) (by decide)
     omega
   ·show bl (r*c)<=s+1
    rcases hc with h|h<;>rw [h]<;>simp
    ·exact lbR (B5 (x:=0) (by decide) (by decide)) (by omega)
    ·omega
  ·obtain ⟨j,hj,rfl⟩:=lbx.1 he
   have:=hEs j (lbB.1 hj)
   exact ⟨this.1,this.2.1⟩
 ·rcases lbA.1 he with rfl|he
  ·exact (he0 y u hu).2 hφ
  ·obtain ⟨j,hj,rfl⟩:=lbx.1 he
   have hj:=lbB.1 hj
   exact ((hEs j hj).2.2 y u hu hy0).2 (hyF j hj)
 ·let y':Nat->Rat:=fun w=>if w<n then u' (w+1) else ((c:Int):Rat)*D0.V (w - n) - j8 (fun j=>D0.A (w - n) j*u' (j+1)) n
  have huy:∀l,l<n->u' (l+1)=y' l:=fun l hl=>by show _=if l<n then _ else _;rw [if_pos hl]
  have hy':Ids m n D0 y' ((c:Int):Rat):=by
   intro i hi
   rw [h0.o i hi]
   show (if n+i<n then _ else _)=_
   rw [if_neg (by omega),show n+i - n=i by omega]
   congr 1
   refine i9 fun j hj=>?_
   rw [h0.f j hj,huy j hj]
  have hyD':=(hI y' _).1 hy'
  have hF':∀j,j<n->y' (D.F j)=((t j:Int):Rat):=fun j hj=>((hEs j hj).2.2 y' u' huy hy').1 (hu' _ (List.mem_cons_of_mem _ (lbx.2 ⟨j,lbB.2 hj,rfl⟩)))
  have same:∀w,w<n+m->y' w=y w:=by
   intro w hw
   rcases hP.all w hw with ⟨i,hi,rfl⟩|⟨j,hj,rfl⟩
   ·rw [hyD' i hi,hyD i hi]
    congr 1
    exact i9 fun j hj=>by rw [hF' j hj,hyF j hj]
   ·rw [hF' j hj,hyF j hj]
  have h1:=(he0 y' u' huy).1 (hu' e0 (List.mem_cons_self))
  have h2:j8 (fun l=>((b l:Int):Rat)*y' l) n=j8 (fun l=>((b l:Int):Rat)*y l) n:=i9 fun l hl=>by rw [same l (by omega)]
  rw [h2,←hφ] at h1
  have hqn:((q:Int):Rat)≠0:=by intro h;exact hq (by exact_mod_cast h)
  show u' 0=φ
  have h3:((q:Int):Rat)*(u' 0 - φ)=0:=by grind
  have:=(Rat.mul_eq_zero.1 h3).resolve_left hqn
  grind
theorem aw7 {m n s:Nat} {D0 D:Fd} (h0:a7P m n s D0) (hs:1<=s) (hP:Y3 m n D) (hI:∀y c,Ids m n D0 y c↔Ids m n D y c) {c:Int} {t:Nat->Int} (hc:c=0∨c=1) (ht:∀j,t j=0∨t j=1) {w:Nat} (hw:w<n+m):
 rl (N4 m n D ((c:Int):Rat) (fun j=>((t j:Int):Rat)) w)<=2 ^ n*(s+2):=by
 by_cases hv:w<n
 ·refine a50 h0 hs hP hI hc ht (q:=1) (r:=0) (b:=fun l=>if l=w then 1 else 0) (by decide) (lbR (B5 (by decide) (by decide)) hs) (lbR (B5 (by decide) (by decide)) hs) (fun l hl=>b92 hs _) ?_
  rw [a3Y hv]
  have e0:((0:Int):Rat)=0:=rfl
  have e1:((1:Int):Rat)=1:=rfl
  rw [e0,e1];grind
 ·obtain ⟨i,rfl⟩:∃i,w=n+i:=⟨w - n,by omega⟩
  have him:i<m:=by omega
  obtain ⟨qi,vi,ai,q1,q2,q3,q4,q5,q6⟩:=h0.w i him
  have hy0:=(hI _ _).2 (V3 hP ((c:Int):Rat) (fun j=>((t j:Int):Rat))) i him
  rw [h0.o i him] at hy0
  refine a50 h0 (lbR hs (lbQ _)) hP hI hc ht (q:=qi) (r:=vi) (b:=fun l=>0 - ai l) q1 q2 q3 (fun l hl=>?_) ?_
  ·rw [show (0:Int) - ai l=-(ai l) by omega,a5C];exact q4 l hl
  ·rw [hy0,←q5]
   have e1:j8 (fun l=>(((0 - ai l:Int)):Rat)*N4 m n D ((c:Int):Rat) (fun j=>((t j:Int):Rat)) l) n=0 - ((qi:Int):Rat)*j8 (fun j=>D0.A i j*N4 m n D ((c:Int):Rat) (fun j=>((t j:Int):Rat)) (D0.F j)) n:=by
    have:j8 (fun l=>(((0 - ai l:Int)):Rat)*N4 m n D ((c:Int):Rat) (fun j=>((t j:Int):Rat)) l) n=j8 (fun l=>(0 - ((qi:Int):Rat))*(D0.A i l*N4 m n D ((c:Int):Rat) (fun j=>((t j:Int):Rat)) (D0.F l))) n:=i9 fun l hl=>by
     rw [h0.f l hl]
     have:=q6 l hl
     have e:((0 - ai l:Int):Rat)=0 - ((ai l:Int):Rat):=by push_cast;rfl
     rw [e,←this];grind
    rw [this,G5];grind
   rw [e1];grind
theorem b8v {m n s:Nat} {D0 D:Fd} (h0:a7P m n s D0) (hs:1<=s) (hP:Y3 m n D) (hI:∀y c,Ids m n D0 y c↔Ids m n D y c) {i:Nat} (hi:i<m):rl (D.V i)<=2 ^ n*(s+2):=by
 have:=aw7 h0 hs hP hI (c:=1) (t:=fun _=>0) (.inr rfl) (fun _=>.inl rfl) (hP.ob i hi)
 rw [a4b hP hi] at this
 have e:j8 (fun j=>D.A i j*(((fun _=>(0:Int)) j:Int):Rat)) n=0:=w9 fun j hj=>by
  show D.A i j*((0:Int):Rat)=0
  have e0:((0:Int):Rat)=0:=rfl
  rw [e0];grind
 rw [e] at this
 have e2:((1:Int):Rat)*D.V i - 0=D.V i:=by have e1:((1:Int):Rat)=1:=rfl;rw [e1];grind
 rw [e2] at this
 exact this
theorem b7J {m n s:Nat} {D0 D:Fd} (h0:a7P m n s D0) (hs:1<=s) (hP:Y3 m n D) (hI:∀y c,Ids m n D0 y c↔Ids m n D y c) {i j:Nat} (hi:i<m) (hj:j<n):rl (D.A i j)<=2 ^ n*(s+2):=by
 have:=aw7 h0 hs hP hI (c:=0) (t:=fun l=>if l=j then 1 else 0) (.inl rfl) (fun l=>by by_cases h:l=j;exact .inr (if_pos h);exact .inl (if_neg h)) (hP.ob i hi)
 rw [a4b hP hi] at this
 have e:j8 (fun l=>D.A i l*(((if l=j then (1:Int) else 0):Int):Rat)) n=D.A i j:=by
  rw [i9 (g:=fun l=>(((if l=j then (1:Int) else 0):Int):Rat)*D.A i l) fun l hl=>by grind,a3Y (u:=fun l=>D.A i l) hj]
 rw [e] at this
 have e2:((0:Int):Rat)*D.V i - D.A i j=-(D.A i j):=by have e1:((0:Int):Rat)=0:=rfl;rw [e1];grind
 rw [e2,a2T] at this
 exact this
theorem b7x {m n s:Nat} {D0 D:Fd} (h0:a7P m n s D0) (hs:1<=s) (hP:Y3 m n D) (hI:∀y c,Ids m n D0 y c↔Ids m n D y c) {g0:Nat->Rat} {z:Rat} (hG:a02 n D g0 m z) {q:Int} {b:Nat->Int} (hq:q≠0) (hqs:bl q<=s) (hb:∀l,l<n->bl (b l)<=s) (hg:∀l,l<n->((q:Int):Rat)*g0 l=((b l:Int):Rat)) {j:Nat} (hj:j<n):rl (D.G j)<=2 ^ n*(s+2):=by
 have h1:=hG _ _ (V3 hP ((0:Int):Rat) (fun l=>(((if l=j then (1:Int) else 0):Int):Rat)))
 have e:j8 (fun l=>D.G l*N4 m n D ((0:Int):Rat) (fun l=>(((if l=j then (1:Int) else 0):Int):Rat)) (D.F l)) n=D.G j:=by
  rw [i9 (g:=fun l=>(((if l=j then (1:Int) else 0):Int):Rat)*D.G l) fun l hl=>by rw [a0q hP hl];grind,a3Y (u:=fun l=>D.G l) hj]
 rw [e] at h1
 refine a50 h0 hs hP hI (c:=0) (t:=fun l=>if l=j then 1 else 0) (.inl rfl) (fun l=>by by_cases h:l=j;exact .inr (if_pos h);exact .inl (if_neg h)) (q:=q) (r:=0) (b:=b) hq hqs (lbR (B5 (by decide) (by decide)) hs) hb ?_
 have e0:((0:Int):Rat)=0:=rfl
 have h2:D.G j=j8 (fun l=>g0 l*N4 m n D ((0:Int):Rat) (fun l=>(((if l=j then (1:Int) else 0):Int):Rat)) l) n:=by
  rw [h1];simp only [e0];grind
 rw [h2,←G5]
 have h3:j8 (fun l=>((b l:Int):Rat)*N4 m n D ((0:Int):Rat) (fun l=>(((if l=j then (1:Int) else 0):Int):Rat)) l) n=j8 (fun l=>((q:Int):Rat)*(g0 l*N4 m n D ((0:Int):Rat) (fun l=>(((if l=j then (1:Int) else 0):Int):Rat)) l)) n:=i9 fun l hl=>by rw [← hg l hl];grind
 rw [h3];grind
def b3B (m n:Nat) (y:Nat->Rat):Prop:=∀w,w<n+m->0<=y w
theorem b4i {m n:Nat} {D:Fd} {g0:Nat->Rat} {z:Rat} (hP:Y3 m n D) (hG:a02 n D g0 m z) (hv:∀i,i<m->0<=D.V i) (hg:∀j,j<n->D.G j<=0):
 (∃ y,Ids m n D y 1∧b3B m n y∧j8 (fun j=>g0 j*y j) n=z∧y=N4 m n D 1 (fun _=>0))∧∀y,Ids m n D y 1->b3B m n y->j8 (fun j=>g0 j*y j) n<=z:=by
 refine ⟨⟨_,V3 hP 1 (fun _=>0),fun w hw=>?_,?_,rfl⟩,fun y hy hp=>?_⟩
 ·rcases hP.all w hw with ⟨i,hi,rfl⟩|⟨j,hj,rfl⟩
  ·rw [a4b hP hi,w9 fun j hj=>by grind]
   have:=hv i hi;grind
  ·rw [a0q hP hj];grind
 ·rw [hG _ _ (V3 hP 1 (fun _=>0)),w9 fun j hj=>by rw [a0q hP hj];grind];grind
 ·rw [hG _ _ hy]
  have:j8 (fun j=>D.G j*y (D.F j)) n<=0:=a9y fun j hj=>by
   have h1:=hg j hj
   have h2:=hp (D.F j) (hP.fb j hj)
   have:=lb0 (show 0<=-(D.G j) by grind) h2
   grind
  grind
theorem b7P {m n:Nat} {D:Fd} (hP:Y3 m n D) {r:Nat} (hr:r<m) (hv:D.V r<0) (ha:∀j,j<n->0<=D.A r j):∀y,Ids m n D y 1->¬b3B m n y:=by
 intro y hy hp
 have h1:=hy r hr
 have h2:=hp (D.O r) (hP.ob r hr)
 have h3:0<=j8 (fun j=>D.A r j*y (D.F j)) n:=a36 fun j hj=>lb0 (ha j hj) (hp _ (hP.fb j hj))
 grind
theorem b7V {m n:Nat} {D:Fd} {g0:Nat->Rat} {z:Rat} (hP:Y3 m n D) (hG:a02 n D g0 m z) {s:Nat} (hs:s<n) (hg:0<D.G s) (ha:∀i,i<m->D.A i s<=0):
 ∃y,Ids m n D y 0∧b3B m n y∧0<j8 (fun j=>g0 j*y j) n∧y=N4 m n D 0 (fun j=>if j=s then 1 else 0):=by
 have hsum:∀f:Nat->Rat,j8 (fun j=>f j*(if j=s then (1:Rat) else 0)) n=f s:=fun f=>by
  rw [E3 hs,w9 fun j hj=>by by_cases h:j=s;simp only [h,if_true];simp only [if_neg h];grind]
  simp only [if_true];grind
 refine ⟨_,V3 hP 0 _,fun w hw=>?_,?_,rfl⟩
 ·rcases hP.all w hw with ⟨i,hi,rfl⟩|⟨j,hj,rfl⟩
  ·rw [a4b hP hi,hsum]
   have:=ha i hi;grind
  ·rw [a0q hP hj];split<;>grind
 ·rw [hG _ _ (V3 hP 0 _),i9 (g:=fun j=>D.G j*(if j=s then (1:Rat) else 0)) fun j hj=>by rw [a0q hP hj],hsum]
  grind
def Q1 (l:List (Int × Rat)):Nat->Nat->Rat
 |0=>fun _=>0
 |k+1=>match l[k]? with
  |none=>Q1 l k
  |some t=>fun j=>if j=t.1.toNat then t.2 else Q1 l k j
def L1 (l:List (Int × Rat)):Nat->Rat:=Q1 l l.length
theorem U7 {l:List (Int × Rat)} {k:Nat} {t:Int × Rat} (h:l[k]? =some t):Q1 l (k+1)=fun j=>if j=t.1.toNat then t.2 else Q1 l k j:=by rw [Q1,h]
theorem a8C {l:List (Int × Rat)} {v:Nat}:∀k,(∀ i t,i<k->l[i]? =some t->t.1.toNat≠v)->Q1 l k v=0
 |0,_=>rfl
 |k+1,h=>by
  have ih:=a8C (l:=l) (v:=v) k fun i t hi ht=>h i t (by omega) ht
  cases hk:l[k]? with
  |none=>rw [Q1,hk];exact ih
  |some t=>
   rw [U7 hk]
   simp only
   rw [if_neg (fun e=>h k t (by omega) hk e.symm),ih]
theorem K9:∀{last n:Int} {l:List (Int × Rat)},k7 last n l=true->∀t ∈ l,last<t.1∧t.1<n∧t.2≠0
 |_,_,[],_,t,ht=>by cases ht
 |last,n,a::r,h,t,ht=>by
  unfold k7 at h
  simp only [lbM,lbI] at h
  rcases lbA.1 ht with rfl|ht
  ·exact ⟨h.1.1.1,h.1.1.2,h.1.2⟩
  ·have:=K9 h.2 t ht
   exact ⟨by omega,this.2⟩
theorem a6L:∀{last n:Int} {l:List (Int × Rat)},k7 last n l=true->∀(i j:Nat) (t u:Int × Rat),i<j->l[i]? =some t->l[j]? =some u->t.1<u.1
 |_,_,[],_,i,j,t,u,_,ht,_=>by simp at ht
 |last,n,a::r,h,i,j,t,u,hij,ht,hu=>by
  unfold k7 at h
  simp only [lbM,lbI] at h
  cases j with
  |zero=>omega
  |succ j=>
   simp only [List.getElem?_cons_succ] at hu
   cases i with
   |zero=>
    simp only [List.getElem?_cons_zero] at ht
    injection ht with ht;subst ht
    exact (K9 h.2 u (lbm hu)).1
   |succ i=>
    simp only [List.getElem?_cons_succ] at ht
    exact a6L h.2 i j t u (by omega) ht hu
theorem a6h {α:Type} {l:List α} {k:Nat} {x:α} (h:l[k]? =some x):l.take (k+1)=l.take k++[x]:=by rw [lbG,h];rfl
theorem aP4 {n:Nat} {l:List (Int × Rat)} (h:k7 (-1) (n:Int) l=true) (z:List Rat):∀k,k<=l.length->n7 (l.take k) z=j8 (fun j=>Q1 l k j*z.getD j 0) n
 |0,_=>by
  rw [List.take_zero,w9 fun j hj=>by show (0:Rat)*_=0;grind]
  rfl
 |k+1,hk=>by
  have ih:=aP4 h z k (by omega)
  obtain ⟨t,ht⟩:∃t,l[k]? =some t:=⟨_,lbf (by omega)⟩
  have hm:=K9 h t (lbm ht)
  have hv:t.1.toNat<n:=by omega
  have h0:Q1 l k t.1.toNat=0:=a8C k fun i u hi hu=>by
   have:=a6L h i k u t hi hu ht
   have h2:=K9 h u (lbm hu)
   omega
  rw [a6h ht,Q6,ih,U7 ht]
  rw [E3 (f:=fun j=>(if j=t.1.toNat then t.2 else Q1 l k j)*z.getD j 0) hv,E3 (f:=fun j=>Q1 l k j*z.getD j 0) hv]
  simp only [if_true,h0]
  rw [i9 (f:=fun j=>if j=t.1.toNat then 0 else (if j=t.1.toNat then t.2 else Q1 l k j)*z.getD j 0) (g:=fun j=>if j=t.1.toNat then 0 else Q1 l k j*z.getD j 0) fun j hj=>by
   by_cases hj:j=t.1.toNat
   ·rw [if_pos hj,if_pos hj]
   ·rw [if_neg hj,if_neg hj,if_neg hj]]
  grind
theorem R6 {n:Nat} {l:List (Int × Rat)} (h:k7 (-1) (n:Int) l=true) (z:List Rat):n7 l z=j8 (fun j=>L1 l j*z.getD j 0) n:=by
 have:=aP4 h z l.length (lbQ _)
 rw [List.take_length] at this
 exact this
def M4 (s:l9):Nat->List (Nat × Bool)
 |0=>[]
 |k+1=>match s.rows[k]? with
  |none=>M4 s k
  |some w=>M4 s k++(if w.kind≠0 then [(k,false)] else [])++(if w.kind≠1 then [(k,true)] else [])
def g8 (s:l9):List (Nat × Bool):=M4 s s.rows.length
def Z5 (b:Bool) (x:Rat):Rat:=if b then -x else x
def a4f (s:l9) (f:Nat × Bool):Rat:=match s.rows[f.1]? with
 |none=>0
 |some w=>Z5 f.2 w.value
def a49 (s:l9) (f:Nat × Bool) (j:Nat):Rat:=match s.rows[f.1]? with
 |none=>0
 |some w=>Z5 f.2 (L1 w.terms j)
def k6 (s:l9) (g:List (Int × Rat)):Fd where
 V:=fun i=>a4f s ((g8 s).getD i (0,false))
 A:=fun i j=>a49 s ((g8 s).getD i (0,false)) j
 G:=fun j=>-(L1 g j)
 O:=fun i=>s.n.toNat+i
 F:=fun j=>j
theorem as8 {s:l9} {f:Nat × Bool}:∀k,f ∈ M4 s k↔f.1<k∧∃w,s.rows[f.1]? =some w∧(f.2=false->w.kind≠0)∧(f.2=true->w.kind≠1)
 |0=>by simp [M4]
 |k+1=>by
  have ih:=as8 (s:=s) (f:=f) k
  unfold M4
  cases hw:s.rows[k]? with
  |none=>
   simp only
   rw [ih]
   constructor
   ·rintro ⟨h1,h2⟩;exact ⟨by omega,h2⟩
   ·rintro ⟨h1,w,h2,h3⟩
    refine ⟨?_,w,h2,h3⟩
    by_cases he:f.1=k
    ·rw [he,hw] at h2;cases h2
    ·omega
  |some w=>
   simp only
   rw [lbz,lbz,ih]
   obtain ⟨a,b⟩:=f
   simp only
   constructor
   ·rintro ((⟨h1,h2⟩|h)|h)
    ·exact ⟨by omega,h2⟩
    ·split at h
     ·rename_i hk
      simp at h
      obtain ⟨rfl,rfl⟩:=h
      exact ⟨by omega,w,hw,fun _=>hk,fun h=>by cases h⟩
     ·simp at h
    ·split at h
     ·rename_i hk
      simp at h
      obtain ⟨rfl,rfl⟩:=h
      exact ⟨by omega,w,hw,fun h=>(by cases h),fun _=>hk⟩
     ·simp at h
   ·rintro ⟨h1,w',h2,h3,h4⟩
    by_cases he:a=k
    ·subst he
     rw [hw] at h2;injection h2 with h2;subst h2
     cases b with
     |false=>rw [if_pos (h3 rfl)];simp
     |true=>rw [if_pos (h4 rfl)];simp
    ·exact .inl (.inl ⟨by omega,w',h2,h3,h4⟩)
theorem a0y {s:l9} {f:Nat × Bool}:f ∈ g8 s↔∃w,s.rows[f.1]? =some w∧(f.2=false->w.kind≠0)∧(f.2=true->w.kind≠1):=by
 unfold g8
 rw [as8]
 constructor
 ·rintro ⟨_,h⟩;exact h
 ·rintro ⟨w,h⟩;exact ⟨(lbe.1 h.1).1,w,h⟩
theorem aW7 {s:l9} {g:List (Int × Rat)}:Y3 (g8 s).length s.n.toNat (k6 s g) where
 oi:=fun i i' _ _ h=>by have:s.n.toNat+i=s.n.toNat+i':=h;omega
 fi:=fun j j' _ _ h=>h
 of:=fun i j _ hj h=>by have:s.n.toNat+i=j:=h;omega
 all:=fun w hw=>by
  by_cases h:w<s.n.toNat
  ·exact .inr ⟨w,h,rfl⟩
  ·exact .inl ⟨w - s.n.toNat,by omega,by show s.n.toNat+(w - s.n.toNat)=w;omega⟩
 ob:=fun i hi=>by show s.n.toNat+i<_;omega
 fb:=fun j hj=>by show j<_;omega
theorem aS7 {s:l9} {g:List (Int × Rat)}:a02 s.n.toNat (k6 s g) (fun j=>-(L1 g j)) (g8 s).length 0:=by
 intro y c _
 have:c*(0:Rat)=0:=by grind
 rw [this]
 have e:j8 (fun j=>(k6 s g).G j*y ((k6 s g).F j)) s.n.toNat=j8 (fun j=>-(L1 g j)*y j) s.n.toNat:=rfl
 rw [e];grind
def a6j (s:l9) (g:List (Int × Rat)) (z:List Rat) (w:Nat):Rat:=if w<s.n.toNat then z.getD w 0 else (k6 s g).V (w - s.n.toNat) - j8 (fun j=>(k6 s g).A (w - s.n.toNat) j*z.getD j 0) s.n.toNat
theorem b2k {s:l9} {g:List (Int × Rat)} (z:List Rat):Ids (g8 s).length s.n.toNat (k6 s g) (a6j s g z) 1:=by
 intro i hi
 show a6j s g z (s.n.toNat+i)=_
 unfold a6j
 rw [if_neg (by omega),show s.n.toNat+i - s.n.toNat=i by omega]
 have:(1:Rat)*(k6 s g).V i=(k6 s g).V i:=by grind
 rw [this]
 congr 1
 refine i9 fun j hj=>?_
 show _=(k6 s g).A i j*(if j<s.n.toNat then z.getD j 0 else _)
 rw [if_pos hj]
theorem av6 {s:l9} {g:List (Int × Rat)} (hr:p5 s=true) {z:List Rat} {i:Nat} {f:Nat × Bool} {w:H4} (hf:(g8 s)[i]? =some f) (hw:s.rows[f.1]? =some w):a6j s g z (s.n.toNat+i)=Z5 f.2 (w.value - n7 w.terms z):=by
 unfold a6j
 rw [if_neg (by omega),show s.n.toNat+i - s.n.toNat=i by omega]
 have hfd:(g8 s).getD i (0,false)=f:=by rw [lbl,hf];rfl
 show a4f s ((g8 s).getD i (0,false)) - j8 (fun j=>a49 s ((g8 s).getD i (0,false)) j*z.getD j 0) s.n.toNat=_
 rw [hfd]
 have hrow:B2 s.n w=true:=by
  unfold p5 at hr
  simp only [lbM,lbI,lbv] at hr
  exact hr.2 w (lbm hw)
 have hn:(s.n.toNat:Int)=s.n:=by
  unfold p5 at hr
  simp only [lbM,lbI] at hr
  omega
 unfold B2 at hrow
 simp only [lbM,lbI] at hrow
 have hrt:=hrow.1.1
 rw [← hn] at hrt
 have e1:a4f s f=Z5 f.2 w.value:=by unfold a4f;rw [hw]
 have e2:∀j,a49 s f j=Z5 f.2 (L1 w.terms j):=fun j=>by unfold a49;rw [hw]
 rw [e1,R6 hrt z]
 cases hb:f.2 with
 |false=>
  rw [i9 (g:=fun j=>L1 w.terms j*z.getD j 0) fun j hj=>by rw [e2 j,hb];rfl]
  rfl
 |true=>
  rw [i9 (g:=fun j=>(-1:Rat)*(L1 w.terms j*z.getD j 0)) fun j hj=>by rw [e2 j,hb];show -(L1 w.terms j)*_=_;grind,G5]
  show -w.value - _=-(w.value - _)
  grind
theorem first_holds {s:l9} {g:List (Int × Rat)} (hr:p5 s=true) {z:List Rat} (hl:(z.length:Int)=s.n):i6 s z=true↔b3B (g8 s).length s.n.toNat (a6j s g z):=by
 have hn:z.length=s.n.toNat:=by omega
 unfold i6
 rw [hr,lbH hl]
 simp only [Bool.true_and,lbM,lbv,lbI]
 constructor
 ·rintro ⟨h1,h2⟩ w hw
  by_cases hv:w<s.n.toNat
  ·unfold a6j
   rw [if_pos hv,lbl,lbf (by omega)]
   exact h1 _ (lbE _)
  ·obtain ⟨i,rfl⟩:∃i,w=s.n.toNat+i:=⟨w - s.n.toNat,by omega⟩
   have hi:i<(g8 s).length:=by omega
   obtain ⟨f,hf⟩:∃f,(g8 s)[i]? =some f:=⟨_,lbf hi⟩
   obtain ⟨x,hx,hk1,hk2⟩:=a0y.1 (lbm hf)
   rw [av6 hr hf hx]
   have hb:=h2 x (lbm hx)
   unfold V4 at hb
   simp only [Bool.not_eq_true',Bool.or_eq_false_iff,lbO,lbK] at hb
   cases hfb:f.2 with
   |false=>
    have:=hk1 hfb
    show 0<=x.value - n7 x.terms z
    rcases hb.2 with h|h
    ·grind
    ·exact absurd this h
   |true=>
    have:=hk2 hfb
    show 0<=-(x.value - n7 x.terms z)
    rcases hb.1 with h|h
    ·grind
    ·exact absurd this h
 ·intro hp
  refine ⟨fun v hv=>?_,fun x hx=>?_⟩
  ·obtain ⟨j,hj,rfl⟩:=List.getElem_of_mem hv
   have:=hp j (by omega)
   unfold a6j at this
   rw [if_pos (by omega),lbl,lbf hj] at this
   exact this
  ·obtain ⟨k,hk,hkx⟩:=List.getElem_of_mem hx
   have hxk:s.rows[k]? =some x:=by rw [lbf hk,hkx]
   have side:∀b:Bool,(b=false->x.kind≠0)->(b=true->x.kind≠1)->0<=Z5 b (x.value - n7 x.terms z):=by
    intro b h1 h2
    have hm:((k,b):Nat × Bool) ∈ g8 s:=a0y.2 ⟨x,hxk,h1,h2⟩
    obtain ⟨i,hi,hif⟩:=List.getElem_of_mem hm
    have hf:(g8 s)[i]? =some (k,b):=by rw [lbf hi,hif]
    have:=hp (s.n.toNat+i) (by omega)
    rw [av6 hr hf hxk] at this
    exact this
   unfold V4
   simp only [Bool.not_eq_true',Bool.or_eq_false_iff,lbO,lbK]
   constructor
   ·by_cases h:x.kind≠1
    ·left
     have:=side true (fun h=>by cases h) (fun _=>h)
     have h2:0<=-(x.value - n7 x.terms z):=this
     grind
    ·right;exact h
   ·by_cases h:x.kind≠0
    ·left
     have:=side false (fun _=>h) (fun h=>by cases h)
     have h2:0<=x.value - n7 x.terms z:=this
     grind
    ·right;exact h
theorem b1e (x:Rat):((x.den:Int):Rat)*x=((x.num:Int):Rat):=by
 have hq:((x.den:Int):Rat)≠0:=by
  intro h
  have:(x.den:Int)=0:=by exact_mod_cast h
  have:=x.den_pos;omega
 have h1:x=((x.num:Int):Rat) / ((x.den:Int):Rat):=by rw [← Rat.divInt_eq_div,Rat.num_divInt_den]
 have h2:((x.den:Int):Rat)*(((x.num:Int):Rat) / ((x.den:Int):Rat))=((x.num:Int):Rat):=by
  rw [Rat.div_def,Rat.mul_comm,Rat.mul_assoc,Rat.inv_mul_cancel _ hq,Rat.mul_one]
 rw [← h1] at h2
 exact h2
def b2H (B:Nat) (w:H4):Prop:=(∀ t ∈ w.terms,∃c:Int,t.2=((c:Int):Rat)∧bl c<=1)∧rl w.value<=B
theorem a3b {l:List (Int × Rat)} (h:∀t ∈ l,∃c:Int,t.2=((c:Int):Rat)∧bl c<=1):∀(k j:Nat),∃c:Int,Q1 l k j=((c:Int):Rat)∧bl c<=1
 |0,j=>⟨0,rfl,B5 (by decide) (by decide)⟩
 |k+1,j=>by
  cases hk:l[k]? with
  |none=>rw [Q1,hk];exact a3b h k j
  |some t=>
   rw [U7 hk]
   simp only
   split
   ·exact h t (lbm hk)
   ·exact a3b h k j
theorem b8O {b:Bool} {x:Rat} {c:Int} (h:x=((c:Int):Rat)):∃c':Int,Z5 b x=((c':Int):Rat)∧bl c'=bl c:=by
 cases b with
 |false=>exact ⟨c,h,rfl⟩
 |true=>exact ⟨-c,by show -x=_;rw [h];push_cast;rfl,a5C c⟩
theorem b3e {s:l9} {g:List (Int × Rat)} {B:Nat} (hI:∀w ∈ s.rows,b2H B w):a7P (g8 s).length s.n.toNat (B+2) (k6 s g) where
 o:=fun i _=>rfl
 f:=fun j _=>rfl
 w:=fun i hi=>by
  obtain ⟨f,hf⟩:∃f,(g8 s)[i]? =some f:=⟨_,lbf hi⟩
  obtain ⟨x,hx,_⟩:=a0y.1 (lbm hf)
  obtain ⟨h1,h2⟩:=hI x (lbm hx)
  have hfd:(g8 s).getD i (0,false)=f:=by rw [lbl,hf];rfl
  have eV:(k6 s g).V i=Z5 f.2 x.value:=by show a4f s ((g8 s).getD i (0,false))=_;rw [hfd];unfold a4f;rw [hx]
  have eA:∀j,(k6 s g).A i j=Z5 f.2 (L1 x.terms j):=fun j=>by show a49 s ((g8 s).getD i (0,false)) j=_;rw [hfd];unfold a49;rw [hx]
  have hc:∀j,∃c:Int,(k6 s g).A i j=((c:Int):Rat)∧bl c<=1:=fun j=>by
   obtain ⟨c,hc,hb⟩:=a3b h1 x.terms.length j
   obtain ⟨c',hc',hb'⟩:=b8O (b:=f.2) (x:=L1 x.terms j) hc
   exact ⟨c',by rw [eA,hc'],by omega⟩
  refine ⟨(x.value.den:Int),if f.2 then -x.value.num else x.value.num,fun j=>(x.value.den:Int)*Classical.choose (hc j),?_,?_,?_,fun j hj=>?_,?_,fun j hj=>?_⟩
  ·have:=x.value.den_pos;omega
  ·have:=V9 x.value;omega
  ·have:=V7 x.value
   split
   ·rw [a5C];omega
   ·omega
  ·have hb:=(Classical.choose_spec (hc j)).2
   have h3:=S0 (x.value.den:Int) (Classical.choose (hc j))
   have h4:=V9 x.value
   have e5:bl ((x.value.den:Int)*Classical.choose (hc j))<=B+2:=by omega
   exact e5
  ·rw [eV]
   cases hb:f.2 with
   |false=>exact b1e x.value
   |true=>
    show _*(-x.value)=((-x.value.num:Int):Rat)
    have:=b1e x.value
    have e:((-x.value.num:Int):Rat)=-((x.value.num:Int):Rat):=by push_cast;rfl
    rw [e,←this];grind
  ·have hs:=(Classical.choose_spec (hc j)).1
   conv=>lhs;rw [hs]
   push_cast;rfl
instance:Inhabited Fd:=⟨⟨fun _=>0,fun _ _=>0,fun _=>0,fun _=>0,fun _=>0⟩⟩
structure a6q (m n:Nat) (D0:Fd) (g0:Nat->Rat) (D:Fd):Prop where
 p:Y3 m n D
 i:∀y c,Ids m n D0 y c↔Ids m n D y c
 g:∃z,a02 n D g0 m z
theorem b6v {m n r s:Nat} {D0 D:Fd} {g0:Nat->Rat} (h:a6q m n D0 g0 D) (hs:F2 m n D=.next r s):a6q m n D0 g0 (D.exch r s):=by
 obtain ⟨hr,hsn,hb⟩:=a5B hs
 have hp:=a7h hb
 obtain ⟨z,hz⟩:=h.g
 exact ⟨aq6 hr hsn h.p,fun y c=>(h.i y c).trans (ae0 hr hsn hp),_,as7 hr hsn hp hz⟩
def V8 (m n:Nat) (D0 D:Fd):Prop:=∃k,itS m n k D0=some D
theorem aX0 {m n:Nat} {D0:Fd}:V8 m n D0 D0:=⟨0,rfl⟩
theorem af8 {m n:Nat} {D0 D D':Fd} (h:V8 m n D0 D) (hn:I4 m n D=some D'):V8 m n D0 D':=by
 obtain ⟨k,hk⟩:=h
 exact ⟨k+1,by rw [a0e,hk];exact hn⟩
theorem a1C {m n:Nat} {D0:Fd} {g0:Nat->Rat} (h0:a6q m n D0 g0 D0):∀{k:Nat} {D:Fd},itS m n k D0=some D->a6q m n D0 g0 D
 |0,D,h=>by injection h with h;subst h;exact h0
 |k+1,D,h=>by
  rw [a0e] at h
  cases hk:itS m n k D0 with
  |none=>rw [hk] at h;cases h
  |some D1=>
   rw [hk] at h
   have h:I4 m n D1=some D:=h
   obtain ⟨r,s,hs,rfl⟩:=a6B h
   exact b6v (a1C h0 hk) hs
theorem ad7 {m n:Nat} {D0:Fd} {k:Nat} (h:itS m n k D0=none):∀j,itS m n (k+j) D0=none
 |0=>h
 |j+1=>by rw [show k+(j+1)=(k+j)+1 by omega,a0e,ad7 h j];rfl
theorem aY9 {m n:Nat} {D0 D D':Fd} (h:V8 m n D0 D) (hn:I4 m n D=none) (h':V8 m n D0 D') (hn':I4 m n D'=none):D=D':=by
 obtain ⟨k,hk⟩:=h
 obtain ⟨l,hl⟩:=h'
 have a1:itS m n (k+1) D0=none:=by rw [a0e,hk];exact hn
 have a2:itS m n (l+1) D0=none:=by rw [a0e,hl];exact hn'
 have hkl:k=l:=by
  rcases Nat.lt_trichotomy k l with h|h|h
  ·have:=ad7 a1 (l - (k+1))
   rw [show k+1+(l - (k+1))=l by omega,hl] at this;cases this
  ·exact h
  ·have:=ad7 a2 (k - (l+1))
   rw [show l+1+(k - (l+1))=k by omega,hk] at this;cases this
 subst hkl
 rw [hk] at hl;injection hl
theorem bb4 {m n:Nat} {D0:Fd} {g0:Nat->Rat} (h0:a6q m n D0 g0 D0):∃D,V8 m n D0 D∧I4 m n D=none:=by
 obtain ⟨k,hk,hmin⟩:=a3D (fun k=>itS m n k D0=none) (b97 h0.p h0.g)
 cases k with
 |zero=>cases hk
 |succ k=>
  cases hk':itS m n k D0 with
  |none=>have:=hmin k hk';omega
  |some D=>
   rw [a0e,hk'] at hk
   exact ⟨D,⟨k,hk'⟩,hk⟩
noncomputable def ak8 (m n:Nat) (D0:Fd):Fd:=Classical.epsilon fun D=>V8 m n D0 D∧I4 m n D=none
theorem a5d {m n:Nat} {D0:Fd} {g0:Nat->Rat} (h0:a6q m n D0 g0 D0):V8 m n D0 (ak8 m n D0)∧I4 m n (ak8 m n D0)=none:=Classical.epsilon_spec (bb4 h0)
theorem ba7 {m n:Nat} {D0 D:Fd} {g0:Nat->Rat} (h0:a6q m n D0 g0 D0) (h:V8 m n D0 D) (hn:I4 m n D=none):D=ak8 m n D0:=aY9 h hn (a5d h0).1 (a5d h0).2
theorem b8R {m n:Nat} {D0:Fd} {g0:Nat->Rat} (h0:a6q m n D0 g0 D0):a6q m n D0 g0 (ak8 m n D0):=by
 obtain ⟨k,hk⟩:=(a5d h0).1
 exact a1C h0 hk
theorem b2W {m n:Nat} {D:Fd} (h:F2 m n D=.best):(∀ i,i<m->0<=D.V i)∧∀j,j<n->D.G j<=0:=by
 unfold F2 at h
 split at h
 ·rename_i h1 h2
  refine ⟨fun i hi=>?_,fun j hj=>?_⟩
  ·have:=a10 h1 i hi;simp at this;grind
  ·have:=a10 h2 j hj;simp at this;grind
 ·unfold a1g at h;split at h<;>cases h
 ·unfold a1h at h;split at h<;>cases h
 ·split at h
  ·unfold a1g at h;split at h<;>cases h
  ·unfold a1h at h;split at h<;>cases h
theorem aw8 {n r r':Nat} {D:Fd} (h:a1g n D r=.row r'):r'=r∧∀j,j<n->0<=D.A r j:=by
 unfold a1g at h
 split at h
 ·rename_i h1
  injection h with h
  exact ⟨h.symm,fun j hj=>by have:=a10 h1 j hj;simp at this;grind⟩
 ·cases h
theorem aq9 {m s s':Nat} {D:Fd} (h:a1h m D s=.col s'):s'=s∧∀i,i<m->D.A i s<=0:=by
 unfold a1h at h
 split at h
 ·rename_i h1
  injection h with h
  exact ⟨h.symm,fun i hi=>by have:=a10 h1 i hi;simp at this;grind⟩
 ·cases h
theorem aS4 {m n r:Nat} {D:Fd} (h:F2 m n D=.row r):r<m∧D.V r<0∧∀j,j<n->0<=D.A r j:=by
 unfold F2 at h
 split at h
 ·cases h
 ·rename_i r0 h1 h2
  obtain ⟨rfl,h4⟩:=aw8 h
  have h3:=J3 h1
  exact ⟨h3.1,by simpa using h3.2.1,h4⟩
 ·unfold a1h at h;split at h<;>cases h
 ·rename_i r0 s0 h1 h2
  split at h
  ·obtain ⟨rfl,h4⟩:=aw8 h
   have h3:=J3 h1
   exact ⟨h3.1,by simpa using h3.2.1,h4⟩
  ·unfold a1h at h;split at h<;>cases h
theorem al2 {m n s:Nat} {D:Fd} (h:F2 m n D=.col s):s<n∧0<D.G s∧∀i,i<m->D.A i s<=0:=by
 unfold F2 at h
 split at h
 ·cases h
 ·unfold a1g at h;split at h<;>cases h
 ·rename_i s0 h1 h2
  obtain ⟨rfl,h4⟩:=aq9 h
  have h3:=J3 h2
  exact ⟨h3.1,by simpa using h3.2.1,h4⟩
 ·rename_i r0 s0 h1 h2
  split at h
  ·unfold a1g at h;split at h<;>cases h
  ·obtain ⟨rfl,h4⟩:=aq9 h
   have h3:=J3 h2
   exact ⟨h3.1,by simpa using h3.2.1,h4⟩
theorem b5l {m n:Nat} {D:Fd} (h:I4 m n D=none):F2 m n D=.best∨(∃ r,F2 m n D=.row r)∨∃s,F2 m n D=.col s:=by
 unfold I4 at h
 cases hs:F2 m n D with
 |best=>exact .inl rfl
 |row r=>exact .inr (.inl ⟨r,rfl⟩)
 |col s=>exact .inr (.inr ⟨s,rfl⟩)
 |next r s=>rw [hs] at h;cases h
def zOf (n:Nat) (y:Nat->Rat):List Rat:=(List.range n).map y
theorem aC6 {n:Nat} {y:Nat->Rat}:(zOf n y).length=n:=by simp [zOf]
theorem ac4 {n:Nat} {y:Nat->Rat} {j:Nat} (h:j<n):(zOf n y).getD j 0=y j:=by simp [zOf,lbl,h]
theorem aD0 {n:Nat} {y:Nat->Rat} {v:Rat} (h:v ∈ zOf n y):∃j,j<n∧v=y j:=by
 obtain ⟨j,hj,rfl⟩:=lbx.1 h
 exact ⟨j,lbB.1 hj,rfl⟩
theorem aS0 {n:Nat} {l:List (Int × Rat)} (h:k7 (-1) (n:Int) l=true) (y:Nat->Rat):n7 l (zOf n y)=j8 (fun j=>L1 l j*y j) n:=by
 rw [R6 h];exact i9 fun j hj=>by rw [ac4 hj]
theorem a4C {s:l9} (hr:p5 s=true):((s.n.toNat:Nat):Int)=s.n:=by
 unfold p5 at hr
 simp only [lbM,lbI] at hr
 omega
theorem a1t {s:l9} (hr:p5 s=true) {i:Nat} {w:H4} (hw:s.rows[i]? =some w):k7 (-1) ((s.n.toNat:Nat):Int) w.terms=true∧0<=w.kind∧w.kind<3:=by
 rw [a4C hr]
 unfold p5 at hr
 simp only [lbM,lbv] at hr
 have:=hr.2 w (lbm hw)
 unfold B2 at this
 simp only [lbM,lbI] at this
 exact ⟨this.1.1,this.1.2,this.2⟩
theorem b7Y {s:l9} {g:List (Int × Rat)} (hr:p5 s=true) {y:Nat->Rat} {c:Rat} (hy:Ids (g8 s).length s.n.toNat (k6 s g) y c) {i k:Nat} {b:Bool} {w:H4}
 (hf:(g8 s)[i]? =some (k,b)) (hw:s.rows[k]? =some w):y (s.n.toNat+i)=Z5 b (c*w.value - n7 w.terms (zOf s.n.toNat y)):=by
 have hi:i<(g8 s).length:=(lbe.1 hf).1
 have h1:y (s.n.toNat+i)=c*(k6 s g).V i - j8 (fun j=>(k6 s g).A i j*y j) s.n.toNat:=hy i hi
 have hd:(g8 s).getD i (0,false)=(k,b):=by rw [lbl,hf];rfl
 have hV:(k6 s g).V i=Z5 b w.value:=by show a4f s ((g8 s).getD i (0,false))=_;rw [hd];unfold a4f;simp only [hw]
 have hA:∀j,(k6 s g).A i j=Z5 b (L1 w.terms j):=fun j=>by show a49 s ((g8 s).getD i (0,false)) j=_;rw [hd];unfold a49;simp only [hw]
 rw [h1,hV,aS0 (a1t hr hw).1]
 cases b with
 |false=>rw [i9 (g:=fun j=>L1 w.terms j*y j) fun j hj=>by rw [hA j];rfl];rfl
 |true=>
  rw [i9 (g:=fun j=>(-1:Rat)*(L1 w.terms j*y j)) fun j hj=>by rw [hA j];show -(L1 w.terms j)*_=_;grind,G5]
  show c*-w.value - _=-(c*w.value - _)
  grind
noncomputable def F9 (s:l9) (g:List (Int × Rat)):Fd:=ak8 (g8 s).length s.n.toNat (k6 s g)
noncomputable def J2 (s:l9) (g:List (Int × Rat)):b5S:=F2 (g8 s).length s.n.toNat (F9 s g)
theorem a1D {s:l9} {g:List (Int × Rat)}:a6q (g8 s).length s.n.toNat (k6 s g) (fun j=>-(L1 g j)) (k6 s g):=⟨aW7,fun _ _=>Iff.rfl,0,aS7⟩
theorem X4 {s:l9} {g:List (Int × Rat)}:a6q (g8 s).length s.n.toNat (k6 s g) (fun j=>-(L1 g j)) (F9 s g):=b8R a1D
theorem a8o (s:l9) (g:List (Int × Rat)):J2 s g=.best∨(∃ r,J2 s g=.row r)∨∃c,J2 s g=.col c:=b5l (a5d a1D).2
noncomputable def p7 (s:l9) (g:List (Int × Rat)):List Rat:=zOf s.n.toNat (N4 (g8 s).length s.n.toNat (F9 s g) 1 (fun _=>0))
noncomputable def a9n (s:l9) (g:List (Int × Rat)) (c:Nat):List Rat:=zOf s.n.toNat (N4 (g8 s).length s.n.toNat (F9 s g) 0 (fun j=>if j=c then 1 else 0))
theorem b4K {s:l9} {g:List (Int × Rat)} {y:Nat->Rat} (hy:Ids (g8 s).length s.n.toNat (k6 s g) y 1):∀w,w<s.n.toNat+(g8 s).length->a6j s g (zOf s.n.toNat y) w=y w:=by
 intro w hw
 unfold a6j
 split
 ·rename_i h;exact ac4 h
 ·have h1:y (s.n.toNat+(w - s.n.toNat))=1*(k6 s g).V (w - s.n.toNat) - j8 (fun j=>(k6 s g).A (w - s.n.toNat) j*y j) s.n.toNat:=hy (w - s.n.toNat) (by omega)
  rw [show s.n.toNat+(w - s.n.toNat)=w by omega] at h1
  rw [h1,i9 (g:=fun j=>(k6 s g).A (w - s.n.toNat) j*y j) fun j hj=>by rw [ac4 hj]]
  grind
theorem b2L {s:l9} {g:List (Int × Rat)} (hr:p5 s=true) {y:Nat->Rat} (hy:Ids (g8 s).length s.n.toNat (k6 s g) y 1) (hp:b3B (g8 s).length s.n.toNat y):i6 s (zOf s.n.toNat y)=true:=by
 refine (first_holds (g:=g) hr (by rw [aC6];exact a4C hr)).2 fun w hw=>?_
 rw [b4K hy w hw];exact hp w hw
theorem Z4 {s:l9} {z:List Rat} (h:i6 s z=true):p5 s=true∧(z.length:Int)=s.n:=by
 unfold i6 at h
 simp only [lbM,lbI] at h
 exact ⟨h.1.1.1,h.1.1.2⟩
theorem aI1 {s:l9} {g:List (Int × Rat)} (hg:k7 (-1) ((s.n.toNat:Nat):Int) g=true) (z:List Rat):j8 (fun j=>-(L1 g j)*a6j s g z j) s.n.toNat=-(n7 g z):=by
 rw [R6 hg z,i9 (g:=fun j=>(-1:Rat)*(L1 g j*z.getD j 0)) fun j hj=>by
  have:a6j s g z j=z.getD j 0:=by unfold a6j;rw [if_pos hj]
  rw [this];grind,G5]
 grind
theorem W6 {s:l9} {g:List (Int × Rat)} (hr:p5 s=true) (hg:k7 (-1) ((s.n.toNat:Nat):Int) g=true) (h:J2 s g=.best):
 i6 s (p7 s g)=true∧∀z,i6 s z=true->n7 g (p7 s g)<=n7 g z:=by
 obtain ⟨hv,hgj⟩:=b2W h
 have hi:=X4 (s:=s) (g:=g)
 obtain ⟨v,hv'⟩:=hi.g
 obtain ⟨⟨y,h1,h2,h3,h4⟩,h5⟩:=b4i hi.p hv' hv hgj
 have h1':=(hi.i y 1).2 h1
 have e:p7 s g=zOf s.n.toNat y:=by unfold p7;rw [h4]
 rw [e]
 refine ⟨b2L hr h1' h2,fun z hz=>?_⟩
 have hx:=h5 (a6j s g z) ((hi.i _ 1).1 (b2k z)) ((first_holds hr (Z4 hz).2).1 hz)
 rw [aI1 hg z] at hx
 have h6:j8 (fun j=>-(L1 g j)*y j) s.n.toNat=-(n7 g (zOf s.n.toNat y)):=by
  rw [← aI1 hg]
  exact i9 fun j hj=>by rw [b4K h1' j (by omega)]
 rw [h6] at h3
 grind
theorem a5s {s:l9} {g:List (Int × Rat)} {r:Nat} (h:J2 s g=.row r):∀z,i6 s z=false:=by
 intro z
 cases hz:i6 s z with
 |false=>rfl
 |true=>
  obtain ⟨hr1,hv,ha⟩:=aS4 h
  have hi:=X4 (s:=s) (g:=g)
  exact absurd ((first_holds (Z4 hz).1 (Z4 hz).2).1 hz) (b7P hi.p hr1 hv ha (a6j s g z) ((hi.i _ 1).1 (b2k z)))
structure bj5 (s:l9) (d:List Rat):Prop where
 len:d.length=s.n.toNat
 pos:∀v ∈ d,0<=v
 up:∀(k:Nat) (w:H4),s.rows[k]? =some w->w.kind≠0->n7 w.terms d<=0
 down:∀(k:Nat) (w:H4),s.rows[k]? =some w->w.kind≠1->0<=n7 w.terms d
theorem a9C {s:l9} {g:List (Int × Rat)} {c:Nat} (hr:p5 s=true) (hg:k7 (-1) ((s.n.toNat:Nat):Int) g=true) (h:J2 s g=.col c):bj5 s (a9n s g c)∧n7 g (a9n s g c)<0:=by
 obtain ⟨hc,hgc,ha⟩:=al2 h
 have hi:=X4 (s:=s) (g:=g)
 obtain ⟨v,hv⟩:=hi.g
 obtain ⟨y,h1,h2,h3,h4⟩:=b7V hi.p hv hc hgc ha
 have h1':=(hi.i y 0).2 h1
 have e:a9n s g c=zOf s.n.toNat y:=by unfold a9n;rw [h4]
 rw [e]
 have side:∀(k:Nat) (w:H4) (b:Bool),s.rows[k]? =some w->(b=false->w.kind≠0)->(b=true->w.kind≠1)->0<=Z5 b (-(n7 w.terms (zOf s.n.toNat y))):=by
  intro k w b hw hb1 hb2
  have hm:((k,b):Nat × Bool) ∈ g8 s:=a0y.2 ⟨w,hw,hb1,hb2⟩
  obtain ⟨i,hil,hif⟩:=List.getElem_of_mem hm
  have hf:(g8 s)[i]? =some (k,b):=by rw [lbf hil,hif]
  have:=b7Y hr h1' hf hw
  have hp:=h2 (s.n.toNat+i) (by omega)
  rw [this] at hp
  have e2:(0:Rat)*w.value - n7 w.terms (zOf s.n.toNat y)=-(n7 w.terms (zOf s.n.toNat y)):=by grind
  rw [e2] at hp;exact hp
 refine ⟨⟨aC6,fun v hv=>?_,fun k w hw hk=>?_,fun k w hw hk=>?_⟩,?_⟩
 ·obtain ⟨j,hj,rfl⟩:=aD0 hv
  exact h2 j (by omega)
 ·have:0<=-(n7 w.terms (zOf s.n.toNat y)):=side k w false hw (fun _=>hk) (fun h=>by cases h)
  grind
 ·have:0<=-(-(n7 w.terms (zOf s.n.toNat y))):=side k w true hw (fun h=>by cases h) (fun _=>hk)
  grind
 ·rw [aS0 hg,i9 (g:=fun j=>(-1:Rat)*(-(L1 g j)*y j)) fun j hj=>by grind,G5]
  grind
def a8c (x d:List Rat):List Rat:=List.zipWith (·+·) x d
theorem af2 {x d:List Rat} {n:Nat} (hx:x.length=n) (hd:d.length=n):(a8c x d).length=n:=by simp [a8c,hx,hd]
theorem aw9 {x d:List Rat} {n j:Nat} (hx:x.length=n) (hd:d.length=n) (hj:j<n):(a8c x d).getD j 0=x.getD j 0+d.getD j 0:=by
 simp only [a8c,lbl,List.getElem?_zipWith]
 rw [lbf (show j<x.length by omega),lbf (show j<d.length by omega)]
 rfl
theorem a5G {x d:List Rat} {n:Nat} {l:List (Int × Rat)} (hx:x.length=n) (hd:d.length=n) (h:k7 (-1) (n:Int) l=true):n7 l (a8c x d)=n7 l x+n7 l d:=by
 rw [R6 h,R6 h,R6 h,←a1r]
 exact i9 fun j hj=>by rw [aw9 hx hd hj];grind
theorem a8F {s:l9} {z:List Rat} (h:i6 s z=true):∀v ∈ z,0<=v:=by
 unfold i6 at h
 simp only [lbM,lbI,lbv] at h
 exact h.1.2
theorem b6q {w:H4} {z:List Rat}:V4 w z=true↔(w.kind≠1->w.value<=n7 w.terms z)∧(w.kind≠0->n7 w.terms z<=w.value):=by
 unfold V4
 simp only [Bool.not_eq_true',Bool.or_eq_false_iff,lbO,lbK,lb2]
 constructor
 ·rintro ⟨h1,h2⟩
  exact ⟨fun h=>h1.elim id fun h'=>absurd h h',fun h=>h2.elim id fun h'=>absurd h h'⟩
 ·rintro ⟨h1,h2⟩
  refine ⟨?_,?_⟩
  ·by_cases h:w.kind≠1
   ·exact .inl (h1 h)
   ·exact .inr h
  ·by_cases h:w.kind≠0
   ·exact .inl (h2 h)
   ·exact .inr h
theorem a1E {s:l9} {z:List Rat}:i6 s z=true↔p5 s=true∧(z.length:Int)=s.n∧(∀ v ∈ z,0<=v)∧∀w ∈ s.rows,(w.kind≠1->w.value<=n7 w.terms z)∧(w.kind≠0->n7 w.terms z<=w.value):=by
 unfold i6
 simp only [lbM,lbI,lbv,b6q]
 constructor
 ·rintro ⟨⟨⟨h1,h2⟩,h3⟩,h4⟩;exact ⟨h1,h2,h3,h4⟩
 ·rintro ⟨h1,h2,h3,h4⟩;exact ⟨⟨⟨h1,h2⟩,h3⟩,h4⟩
theorem au4 {s:l9} {x d:List Rat} (hx:i6 s x=true) (hd:bj5 s d):i6 s (a8c x d)=true:=by
 obtain ⟨h1,h2,h3,h4⟩:=a1E.1 hx
 have hn:=a4C h1
 have hxl:x.length=s.n.toNat:=by omega
 refine a1E.2 ⟨h1,by rw [af2 hxl hd.len];exact hn,fun v hv=>?_,fun w hw=>?_⟩
 ·obtain ⟨j,hj,rfl⟩:=List.getElem_of_mem hv
  rw [af2 hxl hd.len] at hj
  have h5:0<=x[j]:=h3 _ (lbE _)
  have h6:0<=d[j]'(by rw [hd.len];exact hj):=hd.pos _ (lbE _)
  simp only [a8c,List.getElem_zipWith]
  grind
 ·obtain ⟨k,hk,hkw⟩:=List.getElem_of_mem hw
  have hkw':s.rows[k]? =some w:=by rw [lbf hk,hkw]
  have h7:=a5G hxl hd.len (a1t h1 hkw').1
  obtain ⟨h8,h9⟩:=h4 w hw
  rw [h7]
  exact ⟨fun h=>by have:=h8 h;have:=hd.down k w hkw' h;grind,fun h=>by have:=h9 h;have:=hd.up k w hkw' h;grind⟩
theorem aH1 {f:Nat->Nat->Rat} (m:Nat):∀n:Nat,j8 (fun i=>j8 (f i) m) n=j8 (fun j=>j8 (fun i=>f i j) n) m
 |0=>by
  show j8 _ 0=_
  rw [w9 (f:=fun j=>j8 (fun i=>f i j) 0) (n:=m) fun j hj=>by simp only [j8,a0Q]]
  simp only [j8,a0Q]
 |n+1=>by
  simp only [j8]
  rw [aH1 m n,←a1r]
theorem b42 {n a:Nat} (ha:a<n) (v:Rat) (c:Nat->Rat):j8 (fun i=>(if a=i then v else 0)*c i) n=v*c a:=by
 rw [E3 ha,w9 fun j hj=>by
  by_cases h:j=a
  ·rw [if_pos h]
  ·rw [if_neg h,if_neg (fun e=>h e.symm)];grind]
 rw [if_pos rfl];grind
def R4 (s:l9) (i:Nat):H4:=s.rows.getD i ⟨[],2,0⟩
theorem aW2 {s:l9} {i:Nat} {w:H4} (h:s.rows[i]? =some w):R4 s i=w:=by unfold R4;rw [lbl,h];rfl
def aB9 (s:l9) (k:Nat):Nat × Bool:=(g8 s).getD k (0,false)
def chg (s:l9) (w:Nat) (p:Rat) (i:Nat):Rat:=if s.n.toNat<=w∧(aB9 s (w - s.n.toNat)).1=i then -(Z5 (aB9 s (w - s.n.toNat)).2 p) else 0
def aY3 (s:l9) (y:Nat->Rat) (l:Nat):Rat:=j8 (fun i=>y i*L1 (R4 s i).terms l) s.rows.length
def b3P (s:l9) (y:Nat->Rat):Rat:=j8 (fun i=>y i*(R4 s i).value) s.rows.length
def bh7 (s:l9) (y:Nat->Rat):Prop:=∀(i:Nat) (w:H4),s.rows[i]? =some w->(w.kind=0->0<=y i)∧(w.kind=1->y i<=0)
def a2z (s:l9) (E:Fd) (i:Nat):Rat:=j8 (fun j=>chg s (E.F j) (-(E.G j)) i) s.n.toNat
def a91 (s:l9) (E:Fd) (r i:Nat):Rat:=chg s (E.O r) 1 i+j8 (fun j=>chg s (E.F j) (E.A r j) i) s.n.toNat
theorem b4F {s:l9} {f:Nat->Nat->Rat} {c:Nat->Rat} {n R:Nat}:j8 (fun i=>j8 (fun j=>f j i) n*c i) R=j8 (fun j=>j8 (fun i=>f j i*c i) R) n:=by
 rw [← aH1]
 refine i9 fun i hi=>?_
 rw [i9 (f:=fun j=>f j i*c i) (g:=fun j=>c i*f j i) fun j hj=>by grind,G5];grind
structure bk2 (s:l9) (g:Nat->Rat) (y:Nat->Rat) (v:Rat):Prop where
 sign:bh7 s y
 mix:∀l,l<s.n.toNat->aY3 s y l<=g l
 val:b3P s y=v
theorem ap7 {s:l9} {g:List (Int × Rat)} {c y:Nat->Rat} {v:Rat} (h:bk2 s c y v) {z:List Rat} (hz:i6 s z=true):v<=j8 (fun l=>c l*z.getD l 0) s.n.toNat:=by
 obtain ⟨hr,hl,hp,hw⟩:=a1E.1 hz
 have hn:=a4C hr
 have h0:∀l,l<s.n.toNat->0<=z.getD l 0:=fun l hl'=>by
  rw [lbl,lbf (by omega)]
  exact hp _ (lbE _)
 have h1:j8 (fun l=>aY3 s y l*z.getD l 0) s.n.toNat<=j8 (fun l=>c l*z.getD l 0) s.n.toNat:=by
  have:=a36 (f:=fun l=>(c l - aY3 s y l)*z.getD l 0) (n:=s.n.toNat) fun l hl'=>lb0 (by have:=h.mix l hl';grind) (h0 l hl')
  rw [i9 (g:=fun l=>c l*z.getD l 0+(-1:Rat)*(aY3 s y l*z.getD l 0)) fun l hl'=>by grind,a1r,G5] at this
  grind
 have h2:j8 (fun l=>aY3 s y l*z.getD l 0) s.n.toNat=j8 (fun i=>y i*n7 (R4 s i).terms z) s.rows.length:=by
  unfold aY3
  rw [b4F (s:=s) (f:=fun i l=>y i*L1 (R4 s i).terms l)]
  refine i9 fun i hi=>?_
  have hx:s.rows[i]? =some (R4 s i):=by unfold R4;rw [lbl,lbf hi];rfl
  rw [R6 (a1t hr hx).1 z,←G5]
  exact i9 fun l hl=>by grind
 have h3:0<=j8 (fun i=>y i*(n7 (R4 s i).terms z - (R4 s i).value)) s.rows.length:=a36 fun i hi=>by
  have hx:s.rows[i]? =some (R4 s i):=by unfold R4;rw [lbl,lbf hi];rfl
  obtain ⟨_,k1,k2⟩:=a1t hr hx
  obtain ⟨s1,s2⟩:=h.sign i _ hx
  obtain ⟨b1,b2⟩:=hw _ (lbm hx)
  by_cases e0:(R4 s i).kind=0
  ·have:=b1 (by omega)
   exact lb0 (s1 e0) (by grind)
  ·by_cases e1:(R4 s i).kind=1
   ·have:=b2 e0
    have:=lb0 (show 0<=-(y i) by have:=s2 e1;grind) (show 0<=-(n7 (R4 s i).terms z - (R4 s i).value) by grind)
    grind
   ·have a1:=b1 e1
    have a2:=b2 e0
    have:n7 (R4 s i).terms z - (R4 s i).value=0:=by grind
    rw [this];grind
 rw [i9 (g:=fun i=>y i*n7 (R4 s i).terms z+(-1:Rat)*(y i*(R4 s i).value)) fun i hi=>by grind,a1r,G5] at h3
 have h4:=h.val
 unfold b3P at h4
 grind
def rF (n:Nat) (g:Nat->Rat):List Fr:=(List.range n).map fun j=>fz (g j)
def mF (m n:Nat) (A:Nat->Nat->Rat):List (List Fr):=(List.range m).map fun i=>rF n (A i)
theorem P7 (n:Nat) (g:Nat->Rat):(rF n g).length=n:=by simp [rF]
theorem e7 (m n:Nat) (A:Nat->Nat->Rat):(mF m n A).length=m:=by simp [mF]
theorem L2 {n:Nat} {g:Nat->Rat} {j:Nat} (h:j<n):(rF n g)[j]? =some (fz (g j)):=by simp [rF,h]
theorem Q8 {m n:Nat} {A:Nat->Nat->Rat} {i:Nat} (h:i<m):(mF m n A)[i]? =some (rF n (A i)):=by simp [mF,h]
theorem a05 {n:Nat} {g:Nat->Rat} {s:Nat} {v:Rat} (h:s<n):(rF n g).set s (fz v)=rF n (fun j=>if j=s then v else g j):=by
 apply List.ext_getElem?
 intro j
 by_cases hj:j<n
 ·rw [L2 hj,lbg,P7]
  by_cases hjm:s=j
  ·subst hjm;simp [h]
  ·rw [if_neg hjm,L2 hj,if_neg (by omega)]
 ·rw [lbd (by simp [P7];omega),lbd (by simp [P7];omega)]
theorem G1 {n:Nat} {g h:Nat->Rat} (e:∀j,j<n->g j=h j):rF n g=rF n h:=lbp fun j hj=>by rw [e j (lbB.1 hj)]
theorem aR1 {m n:Nat} {A B:Nat->Nat->Rat} (e:∀i,i<m->∀j,j<n->A i j=B i j):mF m n A=mF m n B:=lbp fun i hi=>G1 (e i (lbB.1 hi))
theorem b4v {m n:Nat} {A:Nat->Nat->Rat} {r:Nat} {g:Nat->Rat} (h:r<m):(mF m n A).set r (rF n g)=mF m n (fun i=>if i=r then g else A i):=by
 apply List.ext_getElem?
 intro j
 by_cases hj:j<m
 ·rw [Q8 hj,lbg,e7]
  by_cases hjm:r=j
  ·subst hjm;simp [h]
  ·rw [if_neg hjm,Q8 hj,if_neg (by omega)]
 ·rw [lbd (by simp [e7];omega),lbd (by simp [e7];omega)]
abbrev flB (l:List Fr):Blk:={ mode:=.live,elem:=86,size:=4,rows:=toC (l.map s9),box:=false }
theorem P2 {row:List Fr} {i n:Nat} {y:Fr} (h:n=i):C2 (flB row) ((toC (row.map s9)).set n (frC y))=flB (row.set i y):=by
 subst h
 unfold C2
 simp [toC,List.map_set,s9]
def S3 (b m n:Nat) (V:Nat->Rat):List (List C):=(List.range m).map fun i=>frC (fz (V i))++[C.own (i+b) 0 n true]
def a15 (m:Nat) (O:Nat->Nat):List (List T):=(List.range m).map fun i=>[ti (O i)]
def a0p (l:List (Nat × Bool)):List (List T):=l.map fun f=>[ti f.1,tb f.2]
theorem F3 (b m n:Nat) (V:Nat->Rat):(S3 b m n V).length=m:=by simp [S3]
theorem z9 (m:Nat) (O:Nat->Nat):(a15 m O).length=m:=by simp [a15]
theorem a32 {b m n:Nat} {V:Nat->Rat} {i:Nat} (h:i<m):(S3 b m n V)[i]? =some (frC (fz (V i))++[C.own (i+b) 0 n true]):=by simp [S3,h]
theorem a71 {m:Nat} {O:Nat->Nat} {i:Nat} (h:i<m):(a15 m O)[i]? =some [ti (O i)]:=by simp [a15,h]
theorem b2B {b m n:Nat} {V:Nat->Rat} {r:Nat} {v:Rat} (h:r<m):(S3 b m n V).set r (frC (fz v)++[C.own (r+b) 0 n true])=S3 b m n (fun i=>if i=r then v else V i):=by
 apply List.ext_getElem?
 intro j
 by_cases hj:j<m
 ·rw [a32 hj,lbg,F3]
  by_cases hjm:r=j
  ·subst hjm;simp [h]
  ·rw [if_neg hjm,a32 hj,if_neg (by omega)]
 ·rw [lbd (by simp [F3];omega),lbd (by simp [F3];omega)]
theorem b6J {m:Nat} {O:Nat->Nat} {r v:Nat} (h:r<m):(a15 m O).set r [ti v]=a15 m (fun i=>if i=r then v else O i):=by
 apply List.ext_getElem?
 intro j
 by_cases hj:j<m
 ·rw [a71 hj,lbg,z9]
  by_cases hjm:r=j
  ·subst hjm;simp [h]
  ·rw [if_neg hjm,a71 hj,if_neg (by omega)]
 ·rw [lbd (by simp [z9];omega),lbd (by simp [z9];omega)]
abbrev b0H (m n k:Nat):Blk:={ mode:=.live,elem:=285,size:=6,rows:=[[C.t (ti n),.own 1 0 m true,.own 2 0 n true,.own 3 0 m true,.own 4 0 n true,.own 5 0 k true]],box:=true }
abbrev a0V (b m n:Nat) (V:Nat->Rat):Blk:={ mode:=.live,elem:=288,size:=5,rows:=S3 b m n V,box:=false }
abbrev Z6 (m:Nat) (O:Nat->Nat):Blk:={ mode:=.live,elem:=3,size:=1,rows:=toC (a15 m O),box:=false }
abbrev a1K (l:List (Nat × Bool)):Blk:={ mode:=.live,elem:=306,size:=2,rows:=toC (a0p l),box:=false }
abbrev a0i (m n:Nat) (fr:List (Nat × Bool)) (D:Fd):Hp:=
 b0H m n fr.length::a0V 6 m n D.V::flB (rF n D.G)::Z6 m D.O::Z6 n D.F::a1K fr::(mF m n D.A).map flB
theorem a39 {m n:Nat} {fr:List (Nat × Bool)} {D:Fd}:(a0i m n fr D).length=m+6:=by simp [e7]
theorem ah1 {b m n N:Nat} {V:Nat->Rat} (h:m+b<=N):okB N (a0V b m n V):=by
 intro r hr c hc
 obtain ⟨i,hi,rfl⟩:=lbx.1 hr
 have:=lbB.1 hi
 simp [frC] at hc
 rcases hc with rfl|rfl|rfl|rfl|rfl<;>first|trivial|(simp only;omega)
theorem b2g {m n k N:Nat} (h:6<=N):okB N (b0H m n k):=by
 intro r hr c hc
 simp at hr
 subst hr
 simp at hc
 rcases hc with rfl|rfl|rfl|rfl|rfl|rfl<;>first|trivial|(simp only;omega)
theorem a7x {m n:Nat} {fr:List (Nat × Bool)} {D:Fd}:∀k ∈ a0i m n fr D,okB (m+6) k:=by
 intro k hk
 simp only [lbA] at hk
 rcases hk with rfl|rfl|rfl|rfl|rfl|rfl|hk
 ·exact b2g (by omega)
 ·exact ah1 (lbQ _)
 ·exact I6 rfl
 ·exact I6 rfl
 ·exact I6 rfl
 ·exact I6 rfl
 ·obtain ⟨l,_,rfl⟩:=lbx.1 hk
  exact I6 rfl
theorem b1J (x:Rat):(fz x).p.sg=0↔x=0:=by
 show x.num.sign=0↔_
 rw [Int.sign_eq_zero_iff_zero,Rat.num_eq_zero]
theorem rl0:rl 0<=1:=by
 have h0:=B5 (x:=0) (by decide) (by decide)
 have h1:=B5 (x:=1) (by decide) (by decide)
 show max (bl 0) (bl 1)<=1
 omega
theorem rl1:rl 1<=1:=by
 have h1:=B5 (x:=1) (by decide) (by decide)
 show max (bl 1) (bl 1)<=1
 omega
theorem bb9 (x y:Rat) (hy:y≠0) (lx:rl x<=60000) (ly:rl y<=60000):b9 Tryz.prog 336 [frS (fz x),frS (fz y)] [] (.tup [frS (fz (x / y)),b7 .i64 0]) []:=by
 have r1:=K8 x (by omega)
 have r2:=K8 y (by omega)
 have x1:=V7 x
 have x2:=V9 x
 have y1:=V7 y
 have y2:=V9 y
 have hn:y.num≠0:=fun h=>hy (Rat.num_eq_zero.1 h)
 have hs:y.num.sign≠0:=fun h=>hn (Int.sign_eq_zero_iff_zero.1 h)
 have hsg:=b1J y
 have l1:=S0 x.num y.den
 have l3:=S0 x.den y.num
 have t1:=a1v x.num y.den (by omega) (by omega)
 have t3:=a1v x.den y.num (by omega) (by omega)
 have n:=ay5 (x.num*y.den) (x.den*y.num) (Int.mul_ne_zero (aX5 x) hn) (by omega) (by omega)
 rw [← b7u] at n
 (refine ac Tryz.func336 ?_;(conv=>whnf);repeat (refine zy ?_;conv=>whnf))
 repeat' (first|refine zx ?_|refine qp r1 ?_|refine qp r2 ?_|refine qp t1 ?_|refine qp t3 ?_|refine qp n ?_|refine zd ?_ ?_<;>intro h<;>try omega|fail)<;>conv=>whnf
 all_goals first
  |(exfalso;simp_all;done)
  |exact a2F rfl
theorem a6I (x:Rat) (lx:rl x<=60000):b9 Tryz.prog 291 [frS (fz x)] [] (frS (fz (-x))) []:=by
 have r1:=K8 x (by omega)
 have x1:=V7 x
 have x2:=V9 x
 have n:=a8f x.num (by omega)
 have s:=ae3 x.den (by omega)
 have e:fz (-x)=⟨bz (-x.num),bz x.den⟩:=rfl
 rw [e]
 (refine ac Tryz.func291 ?_;(conv=>whnf);repeat (refine zy ?_;conv=>whnf))
 repeat' (first|refine zx ?_|refine qp r1 ?_|refine qp n ?_|refine qp s ?_|refine zd ?_ ?_<;>intro h<;>try omega|fail)<;>conv=>whnf
 all_goals first
  |(exfalso;simp_all;done)
  |exact s7 ⟨rfl,rfl,rfl,rfl,trivial⟩
theorem ag0 (x:Rat):b9 Tryz.prog 324 [frS (fz x)] [] (j0 (decide (x=0))) []:=by
 have h:=b1J x
 (refine ac Tryz.func324 ?_;(conv=>whnf);repeat (refine zy ?_;conv=>whnf))
 repeat' (first|refine zx ?_|refine zd ?_ ?_<;>intro h<;>try omega|fail)<;>conv=>whnf
 all_goals (refine i4 ?_;simp_all)
theorem b0d (a b c:Rat) (la:rl a<=60000) (lb:rl b<=30000) (lc:rl c<=30000):b9 Tryz.prog 325 [frS (fz a),frS (fz b),frS (fz c)] [] (frS (fz (a - b*c))) []:=by
 have z1:=ag0 b
 have z2:=ag0 c
 have m:=b07 b c (by omega) (by omega)
 have lm:=b0g b c
 have s:=b0b a (b*c) la (by omega)
 by_cases hb:b=0
 ·have e:a - b*c=a:=by rw [hb];grind
  rw [e]
  (refine ac Tryz.func325 ?_;(conv=>whnf);repeat (refine zy ?_;conv=>whnf))
  repeat' (first|refine zx ?_|refine qp z1 ?_|refine qp z2 ?_|refine qp m ?_|refine qp s ?_|refine zd ?_ ?_<;>intro h<;>try omega|fail)<;>conv=>whnf
  all_goals first
   |(exfalso;simp_all;done)
   |exact s7 ⟨rfl,rfl,rfl,rfl,trivial⟩
 ·by_cases hc:c=0
  ·have e:a - b*c=a:=by rw [hc];grind
   rw [e]
   (refine ac Tryz.func325 ?_;(conv=>whnf);repeat (refine zy ?_;conv=>whnf))
   repeat' (first|refine zx ?_|refine qp z1 ?_|refine qp z2 ?_|refine qp m ?_|refine qp s ?_|refine zd ?_ ?_<;>intro h<;>try omega|fail)<;>conv=>whnf
   all_goals first
    |(exfalso;simp_all;done)
    |exact s7 ⟨rfl,rfl,rfl,rfl,trivial⟩
  ·(refine ac Tryz.func325 ?_;(conv=>whnf);repeat (refine zy ?_;conv=>whnf))
   repeat' (first|refine zx ?_|refine qp z1 ?_|refine qp z2 ?_|refine qp m ?_|refine qp s ?_|refine zd ?_ ?_<;>intro h<;>try omega|fail)<;>conv=>whnf
   all_goals first
    |(exfalso;simp_all;done)
    |exact s7 ⟨rfl,rfl,rfl,rfl,trivial⟩
theorem aU3 (a b:Rat) (hb:b≠0) (la:rl a<=60000) (lb:rl b<=60000):b9 Tryz.prog 323 [frS (fz a),frS (fz b)] [] (frS (fz (a / b))) []:=by
 have d:=bb9 a b hb la lb
 (refine ac Tryz.func323 ?_;(conv=>whnf);repeat (refine zy ?_;conv=>whnf))
 repeat' (first|refine zx ?_|refine qp d ?_|refine zd ?_ ?_<;>intro h<;>try omega|fail)<;>conv=>whnf
 all_goals exact s7 ⟨rfl,rfl,rfl,rfl,trivial⟩
def tkF (a row:Nat->Rat) (s k:Nat):Nat->Rat:=fun j=>if j<k∧j≠s then a j - a s*row j else a j
def tkA (a row:Nat->Rat) (s:Nat):Nat->Rat:=fun j=>if j=s then 0 - a s*row s else a j - a s*row j
def pZ (k n:Nat):List Fr:=(List.range n).map fun j=>if j<k then fz 0 else a2A
theorem aD2 (k n:Nat):(pZ k n).length=n:=by simp [pZ]
theorem aD4 {k n j:Nat} (h:j<n):(pZ k n)[j]? =some (if j<k then fz 0 else a2A):=by simp [pZ,h]
theorem b9n {k n:Nat} (h:k<n):(pZ k n).set k (fz 0)=pZ (k+1) n:=by
 apply List.ext_getElem?
 intro j
 by_cases hj:j<n
 ·rw [aD4 hj,lbg,aD2]
  by_cases hjk:k=j
  ·subst hjk;simp [h]
  ·rw [if_neg hjk,aD4 hj]
   have:(j<k+1)↔(j<k):=by omega
   simp only [this]
 ·rw [lbd (by simp [aD2];omega),lbd (by simp [aD2];omega)]
theorem b9J (n:Nat):pZ n n=rF n (fun _=>0):=lbp fun j hj=>by rw [if_pos (lbB.1 hj)]
theorem b85 (n:Nat) (hn:n<=1000):b9 Tryz.prog 289 [b7 .i64 n] [] (.c (.own 0 0 n true)) [flB (rF n fun _=>0)]:=by
 have i0:=I3 0 (by decide) (by decide)
 have hnn:(n:Int).toNat=n:=by omega
 (refine ac Tryz.func289 ?_;(conv=>whnf);repeat (refine zy ?_;conv=>whnf))
 repeat' (first|refine zx ?_|refine a4e (by omega) (by omega) (by omega) (by decide) ?_|refine zd ?_ ?_<;>intro h<;>try omega|fail)<;>conv=>whnf
 refine j7 g6 (fun k=>([b7 .i64 n,J,J,S.c (C.own 0 0 n true),J,J,J,J,b7 .i64 n,b7 .i64 k]++Jn 8,[flB (pZ k n)])) n (fun _=>True) [some 0] trivial
  ⟨rfl,rfl,⟨⟨rfl,rfl,rfl,.inr (aj3 ?_ ?_)⟩,trivial⟩,⟨k9 rfl,⟨rfl,rfl,by omega,fun h=>h⟩,e8 (by omega),e8 rfl,trivial⟩⟩ ?_
 ·simp [I1,toC,aD2]
 ·intro i x y hx hy
  simp only [I1,lbk] at hx
  split at hx
  ·rename_i hi
   injection hx with hx
   subst hx
   have hy:(toC ((pZ 0 n).map s9))[i]? =some y:=hy
   rw [toC,lba,lba,aD4 (by omega),if_neg (by omega)] at hy
   injection hy with hy
   subst hy
   exact ⟨rfl,rfl,rfl,rfl,trivial⟩
  ·cases hx
 intro k hk _
 by_cases hlt:k<n
 ·obtain ⟨pf,hpf⟩:∃pf,(pZ k n)[k]? =some pf:=⟨_,aD4 hlt⟩
  have gp:(pZ k n)[0+(k:Int).toNat]? =some pf:=by rw [Nat.zero_add,show (k:Int).toNat=k by omega];exact hpf
  have eM:0+(k:Int).toNat=k:=by omega
  conv=>whnf
  repeat' (first|refine zx ?_|refine qp i0 ?_|refine q9 gp ?_|refine zd ?_ ?_<;>intro h<;>try omega|fail)<;>conv=>whnf
  all_goals first
   |omega
   |(refine ⟨hlt,trivial,[some 0],rfl,rfl,⟨b8 (rows:=(pZ (k+1) n).map s9) rfl rfl rfl ?_ rfl,trivial⟩,⟨rfl,⟨rfl,rfl,rfl,fun h=>h⟩,rfl,e8 (by omega),trivial⟩⟩
     have e:=P2 (row:=pZ k n) (y:=fz 0) eM
     rw [b9n hlt] at e
     exact congrArg Blk.rows e)
 ·have hke:k=n:=by omega
  subst hke
  conv=>whnf
  repeat' (first|refine zx ?_|refine zd ?_ ?_<;>intro h<;>try omega|fail)<;>conv=>whnf
  all_goals first
   |omega
   |exact ⟨[some 0],rfl,rfl,⟨b8 (rows:=(rF k fun _=>0).map s9) rfl rfl rfl (by rw [← b9J]) rfl,trivial⟩,⟨rfl,rfl,rfl,fun h=>h⟩⟩
theorem b6z (a row:Nat->Rat) (s:Nat):tkF a row s 0=a:=by funext j;unfold tkF;rw [if_neg (by omega)]
theorem be6 (a row:Nat->Rat) (s k:Nat):tkF a row s k k=a k:=by unfold tkF;rw [if_neg (by omega)]
theorem bj0 (a row:Nat->Rat) (s k:Nat):tkF a row s k s=a s:=by unfold tkF;rw [if_neg (by omega)]
theorem b4r {a row:Nat->Rat} {s k:Nat} (h:k≠s):(fun j=>if j=k then a k - a s*row k else tkF a row s k j)=tkF a row s (k+1):=by
 funext j
 by_cases hj:j=k
 ·subst hj;rw [if_pos rfl];unfold tkF;rw [if_pos ⟨by omega,h⟩]
 ·rw [if_neg hj];unfold tkF
  have:(j<k∧j≠s)↔(j<k+1∧j≠s):=by omega
  simp only [this]
theorem b6p {a row:Nat->Rat} {s:Nat}:tkF a row s s=tkF a row s (s+1):=by
 funext j;unfold tkF
 have:(j<s∧j≠s)↔(j<s+1∧j≠s):=by omega
 simp only [this]
theorem b7q {a row:Nat->Rat} {s n:Nat}:rF n (fun j=>if j=s then 0 - a s*row s else tkF a row s n j)=rF n (tkA a row s):=G1 fun j hj=>by
 unfold tkA tkF
 by_cases h:j=s
 ·rw [if_pos h,if_pos h]
 ·rw [if_neg h,if_neg h,if_pos ⟨hj,h⟩]
abbrev frX (x:Rat):Blk:={ mode:=.live,elem:=86,size:=4,rows:=[frC (fz x)],box:=true }
theorem bc9 {ρ:List (Option Nat)} {H:Hp} (x:Rat):a6G ρ H (frX x) (frX x):=⟨rfl,rfl,rfl,.inl ⟨rfl,i8 [s9 (fz x)]⟩⟩
theorem bb0 (n s:Nat) (a row:Nat->Rat) (hn:n<=1000) (hs:s<n) (ha:∀j,j<n->rl (a j)<=30000) (hr:∀j,j<n->rl (row j)<=30000):
 b9 Tryz.prog 326 [.c (.own 0 0 n true),.c (.own 1 0 n true),b7 .i64 s] [flB (rF n a),flB (rF n row)] (.tup []) [flB (rF n (tkA a row s)),flB (rF n row)]:=by
 have i0:=I3 0 (by decide) (by decide)
 have ls:=ha s hs
 have eS:0+(s:Int).toNat=s:=by omega
 have gs:(rF n a)[0+(s:Int).toNat]? =some (fz (a s)):=by rw [eS,L2 hs]
 (refine ac Tryz.func326 ?_;(conv=>whnf);repeat (refine zy ?_;conv=>whnf))
 repeat' (first|refine zx ?_|refine q9 gs ?_|refine zd ?_ ?_<;>intro h<;>try omega|fail)<;>conv=>whnf
 refine j7 g6 (fun k=>([S.c (C.own 0 0 n true),S.c (C.own 1 0 n true),b7 .i64 s,J,J,J,S.c (C.ptr 2 0 0),J,J,J,J,J,J,b7 .i64 n,b7 .i64 k]++Jn 29,[flB (rF n (tkF a row s k)),flB (rF n row),frX (a s)])) n (fun _=>True) [some 0,some 1,some 2] trivial
  ⟨rfl,rfl,⟨b8 (rows:=(rF n a).map s9) rfl rfl rfl rfl (by rw [b6z]),b8 rfl rfl rfl rfl rfl,bc9 _,trivial⟩,⟨⟨rfl,rfl,rfl,fun h=>h⟩,⟨rfl,rfl,rfl,fun h=>h⟩,rfl,⟨rfl,rfl,rfl⟩,e8 rfl,e8 rfl,trivial⟩⟩ ?_
 intro k hk _
 by_cases hlt:k<n
 ·have eM:0+(k:Int).toNat=k:=by omega
  have lk:=ha k hlt
  have lr:=hr k hlt
  have g1:(rF n (tkF a row s k))[0+(k:Int).toNat]? =some (fz (a k)):=by rw [eM,L2 hlt,be6]
  have g2:(rF n row)[0+(k:Int).toNat]? =some (fz (row k)):=by rw [eM,L2 hlt]
  have le:=b0d (a k) (a s) (row k) (by omega) (by omega) (by omega)
  by_cases hks:k=s
  ·subst hks
   conv=>whnf
   repeat' (first|refine zx ?_|refine qp le ?_|refine q9 g1 ?_|refine q9 g2 ?_|refine zd ?_ ?_<;>intro h<;>try omega|fail)<;>conv=>whnf
   all_goals first
    |omega
    |exact ⟨hlt,trivial,[some 0,some 1,some 2],rfl,rfl,⟨b8 (rows:=(rF n (tkF a row k k)).map s9) rfl rfl rfl rfl (by rw [b6p]),b8 rfl rfl rfl rfl rfl,bc9 _,trivial⟩,⟨⟨rfl,rfl,rfl,fun h=>h⟩,⟨rfl,rfl,rfl,fun h=>h⟩,rfl,⟨rfl,rfl,rfl⟩,e8 rfl,e8 rfl,trivial⟩⟩
  ·conv=>whnf
   repeat' (first|refine zx ?_|refine qp le ?_|refine q9 g1 ?_|refine q9 g2 ?_|refine zd ?_ ?_<;>intro h<;>try omega|fail)<;>conv=>whnf
   all_goals first
    |omega
    |(refine ⟨hlt,trivial,[some 0,some 1,some 2],rfl,rfl,⟨b8 (rows:=(rF n (tkF a row s (k+1))).map s9) rfl rfl rfl ?_ rfl,b8 rfl rfl rfl rfl rfl,bc9 _,trivial⟩,⟨⟨rfl,rfl,rfl,fun h=>h⟩,⟨rfl,rfl,rfl,fun h=>h⟩,rfl,⟨rfl,rfl,rfl⟩,e8 rfl,e8 rfl,trivial⟩⟩
      have e:=P2 (row:=rF n (tkF a row s k)) (y:=fz (a k - a s*row k)) eM
      rw [a05 hlt,b4r hks] at e
      exact congrArg Blk.rows e)
 ·have hke:k=n:=by omega
  subst hke
  have g2:(rF k row)[0+(s:Int).toNat]? =some (fz (row s)):=by rw [eS,L2 hs]
  have lr:=hr s hs
  have le:=b0d 0 (a s) (row s) (by have:=rl0;omega) (by omega) (by omega)
  have le:b9 Tryz.prog 325 [frS (fz ((0:Int):Rat)),frS (fz (a s)),frS (fz (row s))] [] (frS (fz (0 - a s*row s))) []:=le
  conv=>whnf
  have g1:(rF k (tkF a row s k))[0+(s:Int).toNat]? =some (fz (a s)):=by rw [eS,L2 hs,bj0]
  repeat' (first|refine zx ?_|refine qp i0 ?_|refine qp le ?_|refine q9 g2 ?_|refine q9 g1 ?_|refine zd ?_ ?_<;>intro h<;>try omega|fail)<;>conv=>whnf
  all_goals first
   |omega
   |(refine ⟨[some 0,some 1],rfl,rfl,⟨b8 (rows:=(rF k (tkA a row s)).map s9) rfl rfl rfl ?_ rfl,b8 rfl rfl rfl rfl rfl,trivial⟩,trivial⟩
     have e:=P2 (row:=rF k (tkF a row s k)) (y:=fz (0 - a s*row s)) eS
     rw [a05 hs,b7q] at e
     exact congrArg Blk.rows e)
def leI:Option Nat->Int
 |none=>-1
 |some a=>a
theorem a5L (f:Nat->Nat) (p:Nat->Bool) (k:Nat):X5 f p (k+1)=match X5 f p k with
 |none=>if p k then some k else none
 |some a=>if p k && decide (f k<f a) then some k else some a:=rfl
theorem G6 {m:Nat} {f:Nat->Nat} {n:Int} {i:Nat} {K:List T->Prop} (e:n=i) (h:i<m) (k:K [ti (f i)]):∃row,0<=n∧(a15 m f)[n.toNat]? =some row∧K row:=by
 subst e;exact ⟨_,by omega,by rw [show (i:Int).toNat=i by omega,a71 h],k⟩
abbrev a6M (m:Nat) (f:Nat->Nat):S:=.c (.t (.sl 1 .any (a15 m f)))
theorem a5J (m:Nat) (hm:m<=100000) (f:Nat->Nat) (p:Nat->Bool) (g:FuncId) (caps:List T) (hg:∀i:Nat,i<m->b9 Tryz.prog g (b7 .i64 i::caps.map fun x=>.c (.t x)) [] (j0 (p i)) []):
 b9 Tryz.prog 292 [a6M m f,.c (.t (.fn (.func g) caps))] [] (b7 .i64 (leI (X5 f p m))) []:=by
 have m1:(a15 m f).length=m:=z9 m f
 (refine ac Tryz.func292 ?_;(conv=>whnf);repeat (refine zy ?_;conv=>whnf))
 repeat' (first|refine zx ?_|refine zd ?_ ?_<;>intro h<;>try omega|fail)<;>conv=>whnf
 refine j7 g6 (fun k=>([a6M m f,S.c (C.t (T.fn (.func g) caps)),J,J,J,b7 .i64 (leI (X5 f p k)),J,J,a6M m f,b7 .i64 m,b7 .i64 k]++Jn 22,[])) m (fun _=>True) [] trivial
  ⟨rfl,rfl,trivial,⟨k9 rfl,k9 rfl,e8 rfl,k9 rfl,e8 (by omega),e8 rfl,trivial⟩⟩ ?_
 intro k hk _
 by_cases hlt:k<m
 ·have hgr:=hg k hlt
  have ha:(b7 .i64 (k:Int)::caps.map fun x=>S.c (C.t x)).all S.isT=true:=by simp [S.isT,C.isT,b7]
  cases hp:p k with
  |false=>
   rw [hp] at hgr
   have e1:leI (X5 f p k)=leI (X5 f p (k+1)):=by
    rw [a5L,hp];cases X5 f p k<;>rfl
   conv=>whnf
   repeat' (first|refine zx ?_|refine .inl ⟨_,_,E9 hgr ha rfl,?_⟩|refine G6 rfl hlt ?_|refine zd ?_ ?_<;>intro h<;>try omega|fail)<;>conv=>whnf
   all_goals first
    |omega
    |exact ⟨hlt,trivial,[],rfl,rfl,trivial,⟨rfl,rfl,e8 e1,rfl,rfl,e8 rfl,trivial⟩⟩
  |true=>
   rw [hp] at hgr
   cases hl:X5 f p k with
   |none=>
    have hle:leI none=-1:=rfl
    have e1:(k:Int)=leI (X5 f p (k+1)):=by rw [a5L,hl,hp];rfl
    conv=>whnf
    repeat' (first|refine zx ?_|refine .inl ⟨_,_,E9 hgr ha rfl,?_⟩|refine G6 rfl hlt ?_|refine zd ?_ ?_<;>intro h<;>try omega|fail)<;>conv=>whnf
    all_goals first
     |omega
     |exact ⟨hlt,trivial,[],rfl,rfl,trivial,⟨rfl,rfl,e8 e1,rfl,rfl,e8 rfl,trivial⟩⟩
   |some b=>
    have hb:=(J3 hl).1
    have hle:leI (some b)=b:=rfl
    by_cases hc:f k<f b
    ·have e1:(k:Int)=leI (X5 f p (k+1)):=by rw [a5L,hl,hp];simp [hc,leI]
     conv=>whnf
     repeat' (first|refine zx ?_|refine .inl ⟨_,_,E9 hgr ha rfl,?_⟩|refine G6 rfl hlt ?_|refine G6 (i:=b) hle (by omega) ?_|refine zd ?_ ?_<;>intro h<;>try omega|fail)<;>conv=>whnf
     all_goals first
      |omega
      |exact ⟨hlt,trivial,[],rfl,rfl,trivial,⟨rfl,rfl,e8 e1,rfl,rfl,e8 rfl,trivial⟩⟩
    ·have e1:leI (some b)=leI (X5 f p (k+1)):=by rw [a5L,hl,hp];simp [hc,leI]
     conv=>whnf
     repeat' (first|refine zx ?_|refine .inl ⟨_,_,E9 hgr ha rfl,?_⟩|refine G6 rfl hlt ?_|refine G6 (i:=b) hle (by omega) ?_|refine zd ?_ ?_<;>intro h<;>try omega|fail)<;>conv=>whnf
     all_goals first
      |omega
      |exact ⟨hlt,trivial,[],rfl,rfl,trivial,⟨rfl,rfl,e8 e1,rfl,rfl,e8 rfl,trivial⟩⟩
 ·have hke:k=m:=by omega
  subst hke
  conv=>whnf
  repeat' (first|refine zx ?_|refine zd ?_ ?_<;>intro h<;>try omega|fail)<;>conv=>whnf
  all_goals first
   |omega
   |exact t6 rfl
def a8Y (m n:Nat) (D:Fd):List (List T):=(List.range m).map fun i=>s9 (fz (D.V i))++[T.sl 4 .any ((rF n (D.A i)).map s9)]
def b8M (m n:Nat) (fr:List (Nat × Bool)) (D:Fd):List T:=[ti n,.sl 5 .any (a8Y m n D),.sl 4 .any ((rF n D.G).map s9),.sl 1 .any (a15 m D.O),.sl 1 .any (a15 n D.F),.sl 2 .any (a0p fr)]
theorem a8w {m n:Nat} {D:Fd} {i:Nat} (h:i<m):(a8Y m n D)[i]? =some (s9 (fz (D.V i))++[T.sl 4 .any ((rF n (D.A i)).map s9)]):=by simp [a8Y,h]
theorem a5t (m n:Nat) (D:Fd):(a8Y m n D).length=m:=by simp [a8Y]
theorem a13 {m n:Nat} {D:Fd} {x:Int} {i:Nat} {K:List T->Prop} (e:x=i) (h:i<m) (k:K (s9 (fz (D.V i))++[T.sl 4 .any ((rF n (D.A i)).map s9)])):∃row,0<=x∧(a8Y m n D)[x.toNat]? =some row∧K row:=by
 subst e;exact ⟨_,by omega,by rw [show (i:Int).toNat=i by omega,a8w h],k⟩
theorem a40 {n:Nat} {g:Nat->Rat} {x:Int} {j:Nat} {K:List T->Prop} (e:x=j) (h:j<n) (k:K (s9 (fz (g j)))):∃row,0<=x∧((rF n g).map s9)[x.toNat]? =some row∧K row:=by
 subst e;exact ⟨_,by omega,by rw [show (j:Int).toNat=j by omega,lba,L2 h];rfl,k⟩
theorem b4G (x:Rat):(fz x).p.sg<0↔x<0:=by
 show x.num.sign<0↔_
 rw [aj7];unfold sgR;split<;>(try split)<;>simp_all
theorem b4H (x:Rat):(fz x).p.sg > 0↔0<x:=by
 show x.num.sign > 0↔_
 rw [aj7];unfold sgR
 split
 ·constructor
  ·intro h;omega
  ·intro h;grind
 ·split<;>simp_all
abbrev a6v (m n:Nat) (fr:List (Nat × Bool)) (D:Fd):T:=.ptr [.ptr (b8M m n fr D)]
theorem b3L (m n:Nat) (fr:List (Nat × Bool)) (D:Fd) (i:Nat) (hi:i<m):
 b9 Tryz.prog 293 (b7 .i64 i::[a6v m n fr D].map fun x=>.c (.t x)) [] (j0 (decide (D.V i<0))) []:=by
 have h:=b4G (D.V i)
 (refine ac Tryz.func293 ?_;(conv=>whnf);repeat (refine zy ?_;conv=>whnf))
 repeat' (first|refine zx ?_|refine a13 rfl hi ?_|refine zd ?_ ?_<;>intro h<;>try omega|fail)<;>conv=>whnf
 all_goals (refine i4 ?_;simp_all)
theorem b3k (m n:Nat) (fr:List (Nat × Bool)) (D:Fd) (j:Nat) (hj:j<n):
 b9 Tryz.prog 294 (b7 .i64 j::[a6v m n fr D].map fun x=>.c (.t x)) [] (j0 (decide (0<D.G j))) []:=by
 have h:=b4H (D.G j)
 (refine ac Tryz.func294 ?_;(conv=>whnf);repeat (refine zy ?_;conv=>whnf))
 repeat' (first|refine zx ?_|refine a40 rfl hj ?_|refine zd ?_ ?_<;>intro h<;>try omega|fail)<;>conv=>whnf
 all_goals (refine i4 ?_;simp_all)
theorem as2 (m n:Nat) (fr:List (Nat × Bool)) (D:Fd) (r j:Nat) (hr:r<m) (hj:j<n):
 b9 Tryz.prog 295 (b7 .i64 j::[a6v m n fr D,T.ptr [ti r]].map fun x=>.c (.t x)) [] (j0 (decide (D.A r j<0))) []:=by
 have h:=b4G (D.A r j)
 (refine ac Tryz.func295 ?_;(conv=>whnf);repeat (refine zy ?_;conv=>whnf))
 repeat' (first|refine zx ?_|refine a13 rfl hr ?_|refine a40 rfl hj ?_|refine zd ?_ ?_<;>intro h<;>try omega|fail)<;>conv=>whnf
 all_goals (refine i4 ?_;simp_all)
theorem ar6 (m n:Nat) (fr:List (Nat × Bool)) (D:Fd) (i s:Nat) (hi:i<m) (hs:s<n):
 b9 Tryz.prog 296 (b7 .i64 i::[a6v m n fr D,T.ptr [ti s]].map fun x=>.c (.t x)) [] (j0 (decide (0<D.A i s))) []:=by
 have h:=b4H (D.A i s)
 (refine ac Tryz.func296 ?_;(conv=>whnf);repeat (refine zy ?_;conv=>whnf))
 repeat' (first|refine zx ?_|refine a13 rfl hi ?_|refine a40 rfl hs ?_|refine zd ?_ ?_<;>intro h<;>try omega|fail)<;>conv=>whnf
 all_goals (refine i4 ?_;simp_all)
theorem b0U {H:Hp} {ia ir n s:Nat} {a row:Nat->Rat} (hne:ia≠ir) (ga:H[ia]? =some (flB (rF n a))) (gr:H[ir]? =some (flB (rF n row))) (hn:n<=1000) (hs:s<n) (ha:∀j,j<n->rl (a j)<=30000) (hr:∀j,j<n->rl (row j)<=30000):
 b9 Tryz.prog 326 [.c (.own ia 0 n true),.c (.own ir 0 n true),b7 .i64 s] H (.tup []) (H.set ia (flB (rF n (tkA a row s)))):=by
 have la:ia<H.length:=(lbe.1 ga).1
 refine L6 [ia,ir] (bb0 n s a row hn hs ha hr) rfl rfl rfl (by simp;exact hne) ?_ ?_ (by simp) rfl rfl (by simp) ?_ ?_
 ·intro i k hk
  match i,hk with
  |0,hk=>injection hk with hk;subst hk;exact ⟨rfl,rfl,a2a _,_,ga,E4 rfl⟩
  |1,hk=>injection hk with hk;subst hk;exact ⟨rfl,rfl,a2a _,_,gr,E4 rfl⟩
 ·intro k hk
  simp at hk
  rcases hk with rfl|rfl<;>(intro h;cases h)
 ·intro i k hk
  match i,hk with
  |0,hk=>
   injection hk with hk;subst hk
   refine ⟨_,?_,E4 rfl⟩
   show (H.set ia _)[ia]? =_
   rw [lbg,if_pos rfl,if_pos la]
  |1,hk=>
   injection hk with hk;subst hk
   refine ⟨_,?_,E4 rfl⟩
   show (H.set ia _)[ir]? =_
   rw [lbg,if_neg hne];exact gr
 ·intro j hj hjn
  simp at hjn
  rw [lbg,if_neg (fun h=>hjn.1 h.symm)]
theorem a2E {b m n i r:Nat} {V:Nat->Rat} {K:List C->Prop} (e:i=r) (h:r<m) (k:K (frC (fz (V r))++[C.own (r+b) 0 n true])):∃row,(S3 b m n V)[i]? =some row∧K row:=by
 subst e;exact ⟨_,a32 h,k⟩
theorem b1h {rows:List (List C)} {i:Nat} {x:List C} {K:List C->Prop} (h:i<rows.length) (k:K x):∃row,(rows.set i x)[i]? =some row∧K row:=⟨x,List.getElem?_set_self h,k⟩
theorem b8H {rows:List (List C)} {i j:Nat} {x:List C} {K:List C->Prop} (h:i≠j) (k:∃row,rows[j]? =some row∧K row):∃row,(rows.set i x)[j]? =some row∧K row:=by
 rw [List.getElem?_set_ne h];exact k
def a4L (a:Nat->Rat) (p:Rat) (s k:Nat):Nat->Rat:=fun j=>if j<k∧j≠s then a j / p else a j
def A1 (D:Fd) (r s k:Nat):Nat->Nat->Rat:=fun i=>if i=r then a4L (D.A r) (D.A r s) s k else D.A i
theorem bi8 {D:Fd} {r s k:Nat}:A1 D r s k r k=D.A r k:=by unfold A1 a4L;rw [if_pos rfl,if_neg (by omega)]
theorem bm0 {D:Fd} {r s k:Nat}:A1 D r s k r s=D.A r s:=by unfold A1 a4L;rw [if_pos rfl,if_neg (by omega)]
theorem b8N {D:Fd} {r s k:Nat} (h:k≠s):(fun i=>if i=r then (fun j=>if j=k then D.A r k / D.A r s else A1 D r s k r j) else A1 D r s k i)=A1 D r s (k+1):=by
 funext i j
 by_cases hi:i=r
 ·subst hi
  simp only [if_true]
  unfold A1 a4L
  simp only [if_true]
  by_cases hj:j=k
  ·subst hj;rw [if_pos rfl,if_pos ⟨by omega,h⟩]
  ·rw [if_neg hj]
   have:(j<k∧j≠s)↔(j<k+1∧j≠s):=by omega
   simp only [this]
 ·rw [if_neg hi];unfold A1;rw [if_neg hi,if_neg hi]
theorem b7b {D:Fd} {r s:Nat}:A1 D r s s=A1 D r s (s+1):=by
 funext i j;unfold A1 a4L
 have:(j<s∧j≠s)↔(j<s+1∧j≠s):=by omega
 split
 ·simp only [this]
 ·rfl
theorem b7L {D:Fd} {r s k:Nat} (h:D.A r k=0):A1 D r s k=A1 D r s (k+1):=by
 funext i j;unfold A1 a4L
 split
 ·show (if j<k∧j≠s then D.A r j / D.A r s else D.A r j)=if j<k+1∧j≠s then D.A r j / D.A r s else D.A r j
  by_cases hj:j=k
  ·subst hj
   rw [if_neg (show ¬(j<j∧j≠s) by omega)]
   split
   ·rw [h];grind
   ·rfl
  ·have:(j<k∧j≠s)↔(j<k+1∧j≠s):=by omega
   simp only [this]
 ·rfl
theorem b29 {m n r:Nat} {A B:Nat->Nat->Rat} {g:Nat->Rat} (h:r<m) (e:(fun i=>if i=r then g else A i)=B):(mF m n A).set r (rF n g)=mF m n B:=by rw [b4v h,e]
def V1 (D:Fd) (r s:Nat):Nat->Rat:=fun i=>if i=r then D.V r / D.A r s else D.V i
def V2 (D:Fd) (r s k:Nat):Nat->Rat:=fun i=>if i=r then D.V r / D.A r s else if i<k then D.V i - D.A i s*(D.V r / D.A r s) else D.V i
def A2 (D:Fd) (r s k:Nat):Nat->Nat->Rat:=fun i=>if i=r then D.pRow r s else if i<k then tkA (D.A i) (D.pRow r s) s else D.A i
theorem aK3 {a row:Nat->Rat} {s:Nat} (h:a s=0):tkA a row s=a:=by
 funext j;unfold tkA
 by_cases hj:j=s
 ·rw [if_pos hj,hj,h];grind
 ·rw [if_neg hj,h];grind
theorem a1b {m i r:Nat} {f:Nat->Nat} {K:List C->Prop} (e:i=r) (h:r<m) (k:K [C.t (ti (f r))]):∃row,(toC (a15 m f))[i]? =some row∧K row:=by
 subst e;exact ⟨_,by simp [toC,a71 h],k⟩
theorem L9 {α β:Type} {f:β->α} {M:List β} {T:List α} {i:Nat} {x:β} (h:M[i]? =some x):(M.map f++T)[i]? =some (f x):=by
 rw [lbb (by simpa using (lbe.1 h).1),lba,h];rfl
theorem b4y {α β:Type} {f:β->α} {M:List β} {T:List α} {i:Nat} {x:β} (h:i<M.length):(M.map f++T).set i (f x)=(M.set i x).map f++T:=by
 rw [List.set_append_left _ _ (by simpa using h),←List.map_set]
theorem b7d {m n:Nat} {D:Fd} {r s:Nat} (hr:r<m) (hs:s<n):(mF m n (A1 D r s n)).set r ((rF n (A1 D r s n r)).set s (fz (((1:Int):Rat) / D.A r s)))=mF m n (A2 D r s 0):=by
 rw [a05 hs,b4v hr]
 refine aR1 fun i hi j hj=>?_
 unfold A2
 by_cases hir:i=r
 ·rw [if_pos hir,if_pos hir]
  unfold Fd.pRow A1 a4L
  rw [if_pos rfl]
  by_cases hjs:j=s
  ·rw [if_pos hjs,if_pos hjs];rfl
  ·rw [if_neg hjs,if_neg hjs,if_pos ⟨hj,hjs⟩]
 ·rw [if_neg hir,if_neg hir,if_neg (by omega)];unfold A1;rw [if_neg hir]
theorem b7A {D:Fd} {r s:Nat}:V2 D r s 0=V1 D r s:=by
 funext i;unfold V2 V1;split
 ·rfl
 ·rw [if_neg (by omega)]
theorem bh9 {D:Fd} {r s k:Nat}:V2 D r s k r=D.V r / D.A r s:=by unfold V2;rw [if_pos rfl]
theorem b6l {D:Fd} {r s k:Nat} (h:k≠r):V2 D r s k k=D.V k:=by unfold V2;rw [if_neg h,if_neg (by omega)]
theorem bl1 {D:Fd} {r s k:Nat}:A2 D r s k r=D.pRow r s:=by unfold A2;rw [if_pos rfl]
theorem b91 {D:Fd} {r s k:Nat} (h:k≠r):A2 D r s k k=D.A k:=by unfold A2;rw [if_neg h,if_neg (by omega)]
theorem b1Q {D:Fd} {r s k:Nat} (h:k≠r):(fun i=>if i=k then D.V k - D.A k s*(D.V r / D.A r s) else V2 D r s k i)=V2 D r s (k+1):=by
 funext i
 by_cases hi:i=k
 ·subst hi;rw [if_pos rfl];unfold V2;rw [if_neg h,if_pos (by omega)]
 ·rw [if_neg hi];unfold V2
  have:(i<k)↔(i<k+1):=by omega
  simp only [this]
theorem b1c {D:Fd} {r s k:Nat} (h:k≠r):(fun i=>if i=k then tkA (D.A k) (D.pRow r s) s else A2 D r s k i)=A2 D r s (k+1):=by
 funext i
 by_cases hi:i=k
 ·subst hi;rw [if_pos rfl];unfold A2;rw [if_neg h,if_pos (by omega)]
 ·rw [if_neg hi];unfold A2
  have:(i<k)↔(i<k+1):=by omega
  simp only [this]
theorem b7l {D:Fd} {r s:Nat}:V2 D r s r=V2 D r s (r+1):=by
 funext i;unfold V2
 by_cases h:i=r
 ·rw [if_pos h,if_pos h]
 ·have:(i<r)↔(i<r+1):=by omega
  simp only [this]
theorem b8t {D:Fd} {r s:Nat}:A2 D r s r=A2 D r s (r+1):=by
 funext i;unfold A2
 by_cases h:i=r
 ·rw [if_pos h,if_pos h]
 ·have:(i<r)↔(i<r+1):=by omega
  simp only [this]
theorem b7y {D:Fd} {r s k:Nat} (h:k≠r) (hz:D.A k s=0):V2 D r s k=V2 D r s (k+1):=by
 rw [← b1Q h,hz];funext i
 by_cases hi:i=k
 ·subst hi;rw [if_pos rfl,b6l h];grind
 ·rw [if_neg hi]
theorem b8V {D:Fd} {r s k:Nat} (h:k≠r) (hz:D.A k s=0):A2 D r s k=A2 D r s (k+1):=by
 rw [← b1c h,aK3 hz];funext i
 by_cases hi:i=k
 ·subst hi;rw [if_pos rfl,b91 h]
 ·rw [if_neg hi]
theorem b9R {D:Fd} {r s m i:Nat} (h:i<m):V2 D r s m i=(D.exch r s).V i:=by
 unfold V2 Fd.exch;simp only
 split
 ·rfl
 ·first|rfl|rw [if_pos h]
theorem b9v {D:Fd} {r s m i j:Nat} (h:i<m):A2 D r s m i j=(D.exch r s).A i j:=by
 unfold A2 Fd.exch;simp only
 split
 ·rfl
 ·first|rfl|(rw [if_pos h];rfl)
abbrev L3 (m n:Nat) (fr:List (Nat × Bool)) (V:Nat->Rat) (G:Nat->Rat) (O F:Nat->Nat) (A:Nat->Nat->Rat) (T:Hp):Hp:=
 b0H m n fr.length::a0V 6 m n V::flB (rF n G)::Z6 m O::Z6 n F::a1K fr::((mF m n A).map flB++T)
structure BdD (m n B:Nat) (D:Fd):Prop where
 v:∀i,i<m->rl (D.V i)<=B
 a:∀i,i<m->∀j,j<n->rl (D.A i j)<=B
 g:∀j,j<n->rl (D.G j)<=B
theorem b0l {b m n r i:Nat} {V:Nat->Rat} {x:List C} {v:Rat} (e:i=r) (h:r<m) (hx:x=frC (fz v)++[C.own (r+b) 0 n true]):(S3 b m n V).set i x=S3 b m n (fun i=>if i=r then v else V i):=by
 subst e hx;exact b2B h
theorem aR9 {m n:Nat} {fr:List (Nat × Bool)} {V G:Nat->Rat} {O F:Nat->Nat} {A:Nat->Nat->Rat} {T T':Hp}:L3 m n fr V G O F A (T++T')=L3 m n fr V G O F A T++T':=by
 show b0H m n fr.length::a0V 6 m n V::flB (rF n G)::Z6 m O::Z6 n F::a1K fr::((mF m n A).map flB++(T++T'))=b0H m n fr.length::a0V 6 m n V::flB (rF n G)::Z6 m O::Z6 n F::a1K fr::(((mF m n A).map flB++T)++T')
 rw [lbD]
theorem a76 {m n:Nat} {fr:List (Nat × Bool)} {V G:Nat->Rat} {O F:Nat->Nat} {A:Nat->Nat->Rat} {T:Hp}:(L3 m n fr V G O F A T).length=m+6+T.length:=by simp [e7];omega
theorem b23 {m n N:Nat} {fr:List (Nat × Bool)} {V G:Nat->Rat} {O F:Nat->Nat} {A:Nat->Nat->Rat} {T:Hp} (h:m+6<=N) (hT:∀k ∈ T,okB N k):∀k ∈ L3 m n fr V G O F A T,okB N k:=by
 intro k hk
 simp only [lbA,lbz] at hk
 rcases hk with rfl|rfl|rfl|rfl|rfl|rfl|hk|hk
 ·exact b2g (by omega)
 ·exact ah1 h
 ·exact I6 rfl
 ·exact I6 rfl
 ·exact I6 rfl
 ·exact I6 rfl
 ·obtain ⟨l,_,rfl⟩:=lbx.1 hk
  exact I6 rfl
 ·exact hT k hk
theorem W5 {n0 N m n:Nat} {fr:List (Nat × Bool)} {V G:Nat->Rat} {O F:Nat->Nat} {A:Nat->Nat->Rat} {T T' H:Hp} {env env':Env} (hH:H=L3 m n fr V G O F A (T++T')) (hN:m+6+T.length=N) (h0:n0<=N) (hT:∀k ∈ T,okB N k)
 (hE:a19 (idR N) H env env'):Ent n0 (idR N) env H env' (L3 m n fr V G O F A T):=by
 refine a8g (by rw [a76];exact hN) h0 (b23 (by omega) hT) (fun i hi=>?_) hE
 rw [hH,aR9,lbb (by rw [a76];omega)]
theorem ac6 {n0 N m n:Nat} {fr:List (Nat × Bool)} {V G:Nat->Rat} {O F:Nat->Nat} {A:Nat->Nat->Rat} {T H:Hp} {r s:S} (hH:H=L3 m n fr V G O F A T) (hN:m+6=N) (h0:n0<=N) (hE:a9p (idR N) H r s):
 Fin n0 r H s (L3 m n fr V G O F A []):=by
 refine aw5 (by rw [a76];exact hN) h0 (b23 (by omega) (by simp)) (fun i hi=>?_) hE
 have e:L3 m n fr V G O F A T=L3 m n fr V G O F A []++T:=aR9 (T:=[]) (T':=T)
 rw [hH,e,lbb (by rw [a76];simp;omega)]
theorem a1c {b0 b1 b2 b3 b4 b5 c0 c1 c2 c3 c4 c5:Blk} {L L':Hp} (h0:b0=c0) (h1:b1=c1) (h2:b2=c2) (h3:b3=c3) (h4:b4=c4) (h5:b5=c5) (h6:L=L'):b0::b1::b2::b3::b4::b5::L=c0::c1::c2::c3::c4::c5::L':=by
 subst h0 h1 h2 h3 h4 h5 h6;rfl
theorem aq3 {b m n r i:Nat} {V V':Nat->Rat} {x:List C} {v:Rat} (e:i=r) (h:r<m) (hx:x=frC (fz v)++[C.own (r+b) 0 n true]) (hV:(fun i=>if i=r then v else V i)=V'):C2 (a0V b m n V) ((a0V b m n V).rows.set i x)=a0V b m n V':=by
 have:=b0l (V:=V) e h hx
 subst hV
 unfold C2
 simp only [this]
theorem a7v {m r i v:Nat} {O:Nat->Nat} (e:i=r) (h:r<m):C2 (Z6 m O) ((Z6 m O).rows.set i [C.t (ti v)])=Z6 m (fun i=>if i=r then v else O i):=by
 subst e
 have:(toC (a15 m O)).set i [C.t (ti v)]=toC (a15 m (fun j=>if j=i then v else O j)):=by
  rw [← b6J h];simp [toC,List.map_set]
 unfold C2
 simp only [this]
theorem aD8 {N:Nat} {x:Rat}:okB N (frX x):=I6 (rows:=[s9 (fz x)]) rfl
theorem b0a (m n:Nat) (fr:List (Nat × Bool)) (D:Fd) (r s:Nat) (hm:m<=100000) (hn:n<=1000) (hr:r<m) (hs:s<n) (hp:D.A r s≠0) (hB:BdD m n 30000 D) (hB':BdD m n 30000 (D.exch r s)):
 b9 Tryz.prog 297 [.c (.ptr 0 0 0),b7 .i64 r,b7 .i64 s] (a0i m n fr D) (.tup []) (a0i m n fr (D.exch r s)):=by
 have eR:0+(r:Int).toNat=r:=by omega
 have eS:0+(s:Int).toNat=s:=by omega
 have gA:(mF m n D.A)[r]? =some (rF n (D.A r)):=Q8 hr
 have gs:(rF n (D.A r))[0+(s:Int).toNat]? =some (fz (D.A r s)):=by rw [eS,L2 hs]
 have bp:=hB.a r hr s hs
 have ov:=aU3 (D.V r) (D.A r s) hp (by have:=hB.v r hr;omega) (by omega)
 (refine ac Tryz.func297 ?_;(conv=>whnf);repeat (refine zy ?_;conv=>whnf))
 repeat' (first|refine zx ?_|refine qp ov ?_|refine qp F3 ?_|refine a52 (e7 _ _ _) ?_|refine I2 ?_|refine a3B ?_|refine a2E eR hr ?_|refine aK6 gA ?_|refine Y7 gA ?_|refine G2 (e7 _ _ _) ?_|refine a7Z (e7 _ _ _) ?_|refine q9 gs ?_|refine b1h (by show _<(S3 _ _ _ _).length;rw [F3];omega) ?_|refine zd ?_ ?_<;>intro h<;>try omega|fail)<;>conv=>whnf
 refine j7 g6 (fun k=>([S.c (C.ptr 0 0 0),b7 .i64 r,b7 .i64 s,J,J,J,S.c (C.ptr 1 r 0),S.c (C.ptr (m+6) 0 0)]++Jn 29++[b7 .i64 n,b7 .i64 k]++Jn 144,L3 m n fr (V1 D r s) D.G D.O D.F (A1 D r s k) [frX (D.A r s)])) n (fun _=>True) (idR (m+7)) trivial ?_ ?_
 ·refine W5 (T':=[]) ?_ rfl (by simp [e7]) (by intro k hk;simp at hk;subst hk;exact aD8) ?_
  ·refine a1c rfl (aq3 eR hr rfl rfl) rfl rfl rfl rfl ?_
   have:A1 D r s 0=D.A:=by funext i j;unfold A1 a4L;split<;>simp_all
   rw [this];rfl
  ·exact ⟨⟨s8 (by omega),rfl,rfl⟩,rfl,rfl,⟨s8 (by omega),eR,rfl⟩,⟨s8 (by omega),rfl,rfl⟩,e8 (by omega),e8 rfl,trivial⟩
 intro k hk _
 have gA1:(mF m n (A1 D r s k))[r]? =some (rF n (A1 D r s k r)):=Q8 hr
 have lA:r<(mF m n (A1 D r s k)).length:=by rw [e7];exact hr
 by_cases hlt:k<n
 ·have eK:0+(k:Int).toNat=k:=by omega
  have gk:(rF n (A1 D r s k r))[0+(k:Int).toNat]? =some (fz (D.A r k)):=by rw [eK,L2 hlt,bi8]
  have bk:=hB.a r hr k hlt
  have ze:=ag0 (D.A r k)
  have ovk:=aU3 (D.A r k) (D.A r s) hp (by omega) (by omega)
  by_cases hks:k=s
  ·subst hks
   conv=>whnf
   repeat' (first|refine zx ?_|refine qp ze ?_|refine qp ovk ?_|refine p6 (e7 _ _ _) ?_|refine I2 ?_|refine m9 ?_|refine a2E rfl hr ?_|refine Y7 gA1 ?_|refine G2 (e7 _ _ _) ?_|refine q9 gk ?_|refine zd ?_ ?_<;>intro h<;>try omega|fail)<;>conv=>whnf
   all_goals first
    |omega
    |exact ⟨hlt,trivial,idR (m+7),W5 (T':=[]) (a1c rfl rfl rfl rfl rfl rfl (by rw [← b7b];rfl)) rfl (by simp [e7]) (by intro k hk;simp at hk;subst hk;exact aD8) ⟨⟨s8 (by omega),rfl,rfl⟩,rfl,rfl,⟨s8 (by omega),rfl,rfl⟩,⟨s8 (by omega),rfl,rfl⟩,rfl,e8 (by omega),trivial⟩⟩
  ·by_cases hz:D.A r k=0
   ·rw [lbH hz] at ze
    conv=>whnf
    repeat' (first|refine zx ?_|refine qp ze ?_|refine qp ovk ?_|refine p6 (e7 _ _ _) ?_|refine I2 ?_|refine m9 ?_|refine a2E rfl hr ?_|refine Y7 gA1 ?_|refine G2 (e7 _ _ _) ?_|refine q9 gk ?_|refine zd ?_ ?_<;>intro h<;>try omega|fail)<;>conv=>whnf
    all_goals first
     |omega
     |exact ⟨hlt,trivial,idR (m+7),W5 (T':=[]) (a1c rfl rfl rfl rfl rfl rfl (by rw [← b7L hz];rfl)) rfl (by simp [e7]) (by intro k hk;simp at hk;subst hk;exact aD8) ⟨⟨s8 (by omega),rfl,rfl⟩,rfl,rfl,⟨s8 (by omega),rfl,rfl⟩,⟨s8 (by omega),rfl,rfl⟩,rfl,e8 (by omega),trivial⟩⟩
   ·rw [lbJ hz] at ze
    conv=>whnf
    repeat' (first|refine zx ?_|refine qp ze ?_|refine qp ovk ?_|refine p6 (e7 _ _ _) ?_|refine I2 ?_|refine m9 ?_|refine a2E rfl hr ?_|refine Y7 gA1 ?_|refine G2 (e7 _ _ _) ?_|refine q9 gk ?_|refine ar2 lA (P2 (y:=fz (D.A r k / D.A r s)) eK) ?_|refine zd ?_ ?_<;>intro h<;>try omega|fail)<;>conv=>whnf
    all_goals first
     |omega
     |exact ⟨hlt,trivial,idR (m+7),W5 (T':=[]) (a1c rfl rfl rfl rfl rfl rfl (by rw [a05 hlt,b29 hr (b8N hks)];rfl)) rfl (by simp [e7]) (by intro k hk;simp at hk;subst hk;exact aD8) ⟨⟨s8 (by omega),rfl,rfl⟩,rfl,rfl,⟨s8 (by omega),rfl,rfl⟩,⟨s8 (by omega),rfl,rfl⟩,rfl,e8 (by omega),trivial⟩⟩
 ·have hke:k=n:=by omega
  subst hke
  have gs1:(rF k (A1 D r s k r))[0+(s:Int).toNat]? =some (fz (D.A r s)):=by rw [eS,L2 hs,bm0]
  have i1:=I3 1 (by decide) (by decide)
  have ov1:=aU3 ((1:Int):Rat) (D.A r s) hp (by have:=rl1;show rl 1<=_;omega) (by omega)
  conv=>whnf
  repeat' (first|refine zx ?_|refine qp i1 ?_|refine qp ov1 ?_|refine p6 (e7 _ _ _) ?_|refine I2 ?_|refine m9 ?_|refine a2E rfl hr ?_|refine Y7 gA1 ?_|refine G2 (e7 _ _ _) ?_|refine q9 gs1 ?_|refine ar2 lA (P2 (y:=fz (((1:Int):Rat) / D.A r s)) eS) ?_|refine zd ?_ ?_<;>intro h<;>try omega|fail)<;>conv=>whnf
  all_goals try omega
  refine j7 g6 (fun q=>([S.c (C.ptr 0 0 0),b7 .i64 r,b7 .i64 s,J,J,J,S.c (C.ptr 1 r 0)]++Jn 77++[b7 .i64 m,b7 .i64 q]++Jn 97,L3 m k fr (V2 D r s q) D.G D.O D.F (A2 D r s q) [])) m (fun _=>True) (idR (m+6)) trivial ?_ ?_
  ·refine W5 (T:=[]) (T':=[frX (D.A r s)]) (a1c rfl (by rw [b7A]) rfl rfl rfl rfl (by rw [b7d hr hs];rfl)) rfl (by simp [e7]) (by simp) ⟨⟨s8 (by omega),rfl,rfl⟩,rfl,rfl,⟨s8 (by omega),rfl,rfl⟩,e8 (by omega),e8 rfl,trivial⟩
  have eP:∀j,(D.exch r s).A r j=D.pRow r s j:=fun j=>by show (if r=r then _ else _)=_;rw [if_pos rfl]
  have har:∀j,j<k->rl (D.pRow r s j)<=30000:=fun j hj=>by rw [← eP];exact hB'.a r hr j hj
  intro q hq _
  have gAr:(mF m k (A2 D r s q))[r]? =some (rF k (D.pRow r s)):=by rw [Q8 hr,bl1]
  by_cases hqm:q<m
  ·have eQ:0+(q:Int).toNat=q:=by omega
   have lQ:q<(mF m k (A2 D r s q)).length:=by rw [e7];exact hqm
   have ze:=ag0 (D.A q s)
   by_cases hqr:q=r
   ·subst hqr
    conv=>whnf
    repeat' (first|refine zx ?_|refine p6 (e7 _ _ _) ?_|refine I2 ?_|refine m9 ?_|refine zd ?_ ?_<;>intro h<;>try omega|fail)<;>conv=>whnf
    all_goals first
     |omega
     |exact ⟨hqm,trivial,idR (m+6),W5 (T:=[]) (T':=[]) (a1c rfl (by rw [← b7l]) rfl rfl rfl rfl (by rw [← b8t];rfl)) rfl (by simp [e7]) (by simp) ⟨⟨s8 (by omega),rfl,rfl⟩,rfl,rfl,⟨s8 (by omega),rfl,rfl⟩,rfl,e8 (by omega),trivial⟩⟩
   ·have gAq:(mF m k (A2 D r s q))[q]? =some (rF k (D.A q)):=by rw [Q8 hqm,b91 hqr]
    have gqs:(rF k (D.A q))[0+(s:Int).toNat]? =some (fz (D.A q s)):=by rw [eS,L2 hs]
    by_cases hz:D.A q s=0
    ·rw [lbH hz] at ze
     conv=>whnf
     repeat' (first|refine zx ?_|refine qp ze ?_|refine p6 (e7 _ _ _) ?_|refine I2 ?_|refine m9 ?_|refine a2E eQ hqm ?_|refine Y7 gAq ?_|refine q9 gqs ?_|refine zd ?_ ?_<;>intro h<;>try omega|fail)<;>conv=>whnf
     all_goals first
      |omega
      |exact ⟨hqm,trivial,idR (m+6),W5 (T:=[]) (T':=[]) (a1c rfl (by rw [← b7y hqr hz]) rfl rfl rfl rfl (by rw [← b8V hqr hz];rfl)) rfl (by simp [e7]) (by simp) ⟨⟨s8 (by omega),rfl,rfl⟩,rfl,rfl,⟨s8 (by omega),rfl,rfl⟩,rfl,e8 (by omega),trivial⟩⟩
    ·rw [lbJ hz] at ze
     have b1:=hB.v q hqm
     have b2:=hB.a q hqm s hs
     have b3:=hB'.v r hr
     have haq:∀j,j<k->rl (D.A q j)<=30000:=hB.a q hqm
     have le:=b0d (V2 D r s q q) (D.A q s) (V2 D r s q r) (by rw [b6l hqr];omega) (by omega) (by rw [bh9];have e:(D.exch r s).V r=D.V r / D.A r s:=(by show (if r=r then _ else _)=_;rw [if_pos rfl]);rw [← e];omega)
     conv=>whnf
     repeat' (first|refine zx ?_|refine qp ze ?_|refine qp le ?_|refine qp F3 ?_|refine p6 (e7 _ _ _) ?_|refine I2 ?_|refine m9 ?_|refine a2E eQ hqm ?_|refine a2E rfl hr ?_|refine Y7 gAq ?_|refine q9 gqs ?_|refine b1h (by show _<(S3 _ _ _ _).length;rw [F3];omega) ?_|refine b8H (by omega) (a2E rfl hr ?_)|refine .inr ⟨_,_,b0U (ia:=q+6) (ir:=r+6) (by omega) (L9 gAq) (L9 gAr) hn hs haq har,?_⟩|refine zd ?_ ?_<;>intro h<;>try omega|fail)<;>conv=>whnf
     all_goals first
      |omega
      |exact ⟨hqm,trivial,idR (m+6),W5 (T:=[]) (T':=[]) (a1c rfl (aq3 (v:=V2 D r s q q - D.A q s*V2 D r s q r) eQ hqm rfl (by rw [b6l hqr,bh9];exact b1Q hqr)) rfl rfl rfl rfl (by rw [b4y lQ,b29 hqm (b1c hqr)];rfl)) rfl (by simp [e7]) (by simp) ⟨⟨s8 (by omega),rfl,rfl⟩,rfl,rfl,⟨s8 (by omega),rfl,rfl⟩,rfl,e8 (by omega),trivial⟩⟩
  ·have hqe:q=m:=by omega
   subst hqe
   have ggs:(rF k D.G)[0+(s:Int).toNat]? =some (fz (D.G s)):=by rw [eS,L2 hs]
   have ze:=ag0 (D.G s)
   have eL:a0V 6 q k (V2 D r s q)=a0V 6 q k (D.exch r s).V:=by
    have:S3 6 q k (V2 D r s q)=S3 6 q k (D.exch r s).V:=lbp fun i hi=>by rw [b9R (lbB.1 hi)]
    unfold a0V;rw [this]
   have eA:mF q k (A2 D r s q)=mF q k (D.exch r s).A:=aR1 fun i hi j _=>b9v hi
   have eO:a15 q (fun i=>if i=r then D.F s else D.O i)=a15 q (D.exch r s).O:=rfl
   have eF:a15 k (fun j=>if j=s then D.O r else D.F j)=a15 k (D.exch r s).F:=rfl
   have e0:a0i q k fr (D.exch r s)=L3 q k fr (D.exch r s).V (D.exch r s).G (D.exch r s).O (D.exch r s).F (D.exch r s).A []:=by
    show _::_::_::_::_::_::_=_::_::_::_::_::_::(_++[])
    rw [List.append_nil]
   by_cases hz:D.G s=0
   ·have eG:(D.exch r s).G=D.G:=by have:=aK3 (row:=D.pRow r s) hz;exact this
    rw [lbH hz] at ze
    conv=>whnf
    repeat' (first|refine zx ?_|refine qp ze ?_|refine qp 9 ?_|refine p6 (e7 _ _ _) ?_|refine I2 ?_|refine m9 ?_|refine q9 ggs ?_|refine a1b eR hr ?_|refine a1b eS hs ?_|refine bl0 [9] ?_|refine zd ?_ ?_<;>intro h<;>try omega|fail)<;>conv=>whnf
    all_goals first
     |omega
     |(rw [e0];exact ac6 (T:=[]) (a1c rfl eL (by rw [eG]) (a7v eR hr) (a7v eS hs) rfl (by rw [eA])) rfl (by simp [e7]) trivial)
   ·have eG:(D.exch r s).G=tkA D.G (D.pRow r s) s:=rfl
    rw [lbJ hz] at ze
    conv=>whnf
    repeat' (first|refine zx ?_|refine qp ze ?_|refine qp 9 ?_|refine p6 (e7 _ _ _) ?_|refine I2 ?_|refine m9 ?_|refine q9 ggs ?_|refine a2E rfl hr ?_|refine a1b eR hr ?_|refine a1b eS hs ?_|refine bl0 [9] ?_|refine .inr ⟨_,_,b0U (ia:=2) (ir:=r+6) (by omega) rfl (L9 gAr) hn hs hB.g har,?_⟩|refine zd ?_ ?_<;>intro h<;>try omega|fail)<;>conv=>whnf
    all_goals first
     |omega
     |(rw [e0];exact ac6 (T:=[]) (a1c rfl eL (by rw [eG]) (a7v eR hr) (a7v eS hs) rfl (by rw [eA])) rfl (by simp [e7]) trivial)
end Go.Proofs.YtikokmdpigploaaGreat
