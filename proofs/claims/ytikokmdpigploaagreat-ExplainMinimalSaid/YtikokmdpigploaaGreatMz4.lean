/- Part 4. -/
import Derived.Test.YtikokmdpigploaaGreatMz3
namespace Go.Proofs.YtikokmdpigploaaGreat
set_option linter.unusedVariables false
set_option linter.unusedSimpArgs false
set_option maxRecDepth 100000
set_option maxHeartbeats 8000000
open Go.RowKit
open St1 St2 St3 St4 St5 St6 St7 St8 StA StB
theorem a70 {x y:Rat}:a1Y x y<0↔x<y:=by unfold a1Y;split<;>(try split)<;>simp_all
theorem b57 (x y:Rat):-1<=a1Y x y∧a1Y x y<=1:=by unfold a1Y;split<;>(try split)<;>omega
theorem b7V (x y:Rat) (lx:rl x<=60000) (ly:rl y<=60000):e7 Tryz.prog 258 [frS (fz x),frS (fz y)] [] (.tup [frS (fz (aQ5 x y)),b7 .i64 0]) []:=by
 have e:e7 Tryz.prog 313 [frS (fz x),frS (fz y),b7 .i64 1] [] (.tup [frS (fz (aQ5 x y)),b7 .i64 0]) []:=by
  have r1:=K9 x (by omega)
  have r2:=K9 y (by omega)
  have x1:=U8 x
  have x2:=V3 x
  have y1:=U8 y
  have y2:=V3 y
  have c:=a20 x y lx ly
  have hr:=b57 x y
  have s1:=ab2 x.num (by omega)
  have s2:=ab2 x.den (by omega)
  have s3:=ab2 y.num (by omega)
  have s4:=ab2 y.den (by omega)
  (refine ac Tryz.func313 ?_;(conv=>whnf);repeat (refine zy ?_;conv=>whnf))
  repeat' (first|refine zx ?_|refine qp r1 ?_|refine qp r2 ?_|refine qp c ?_|refine qp s1 ?_|refine qp s2 ?_|refine qp s3 ?_|refine qp s4 ?_|refine zd ?_ ?_<;>intro h<;>try omega|fail)<;>conv=>whnf
  ·have h:a1Y x y<0:=by omega
   refine a2j (f:=fz y) ?_
   unfold aQ5;rw [if_pos (a70.1 h)]
  ·have h:¬a1Y x y<0:=by omega
   refine a2j (f:=fz x) ?_
   unfold aQ5;rw [if_neg (fun h'=>h (a70.2 h'))]
 (refine ac Tryz.func258 ?_;(conv=>whnf);repeat (refine zy ?_;conv=>whnf))
 repeat' (first|refine zx ?_|refine qp e ?_|refine zd ?_ ?_<;>intro h<;>try omega|fail)<;>conv=>whnf
 all_goals exact a2j rfl
theorem a4i (n m:Int):e7 Tryz.prog 312 [b7 .i64 n,b7 .i64 m] [] (i8 (btw n 0 m)) []:=by
 (refine ac Tryz.func312 ?_;(conv=>whnf);repeat (refine zy ?_;conv=>whnf))
 repeat' (first|refine zx ?_|refine zd ?_ ?_<;>intro h<;>try omega|fail)<;>conv=>whnf
 all_goals (refine i3 ?_;unfold btw;simp;omega)
abbrev b42 (c:P2):S:=.agg (c.row.map .t)
theorem b2q (n:Int):btw n 0 29=idx n 30:=b6o n 30
theorem aJ0 (c:P2):e7 Tryz.prog 331 [b42 c] [] (i8 (a0w c)) []:=by
 have w1:=a4i c.scale 29
 have w2:=a4i c.grams 1099511627776
 have w3:=a4i c.permille 1000
 have w4:=a4i c.drift 10000000
 rw [b2q] at w1
 unfold a0w
 cases h1:idx c.scale 30<;>cases h2:btw c.grams 0 1099511627776<;>cases h3:btw c.permille 0 1000<;>cases h4:btw c.drift 0 10000000<;>rw [h1] at w1<;>rw [h2] at w2<;>rw [h3] at w3<;>rw [h4] at w4<;>
 ·(refine ac Tryz.func331 ?_;(conv=>whnf);repeat (refine zy ?_;conv=>whnf))
  repeat' (first|refine zx ?_|refine qp w1 ?_|refine qp w2 ?_|refine qp w3 ?_|refine qp w4 ?_|refine zd ?_ ?_<;>intro h<;>try omega|fail)<;>conv=>whnf
  all_goals (refine i3 ?_;simp;try omega)
theorem aI8 (c:P2) (day:Int):e7 Tryz.prog 309 [b42 c,b7 .i64 day] [] (i8 (a0c c day)) []:=by
 have w1:=aJ0 c
 unfold a0c
 cases h1:a0w c<;>rw [h1] at w1<;>
 ·(refine ac Tryz.func309 ?_;(conv=>whnf);repeat (refine zy ?_;conv=>whnf))
  repeat' (first|refine zx ?_|refine qp w1 ?_|refine zd ?_ ?_<;>intro h<;>try omega|fail)<;>conv=>whnf
  all_goals (refine i3 ?_;simp [btw];try omega)
theorem b5I {cs:List P2} {k:Nat} {c:P2} (h:cs[k]? =some c):ay8 cs k=c.since:=by unfold ay8;rw [h];rfl
abbrev b6X (n:Int):T:=.ptr [ti n]
theorem b4X {a b:Bool} {ρ:List (Option Nat)} {H:Hp} (h:a=b):a63 ρ H (i8 a) (i8 b):=by subst h;exact rfl
def aa3 (o:Option Nat):Nat:=o.getD 0
theorem b7W (cs:List P2) (scale day:Int) (hl:cs.length<=1000000):
 e7 Tryz.prog 255 [.c (.t (a2m cs)),b7 .i64 scale,b7 .i64 day] [] (.tup [b7 .i64 (aa3 (S9 cs scale day cs.length)),i8 (S9 cs scale day cs.length).isSome]) []:=by
 have l1:(cs.map P2.row).length=cs.length:=by simp
 (refine ac Tryz.func255 ?_;(conv=>whnf);repeat (refine zy ?_;conv=>whnf))
 repeat' (first|refine zx ?_|refine zd ?_ ?_<;>intro h<;>try omega|fail)<;>conv=>whnf
 refine j5 e8 (fun k=>([S.c (C.t (a2m cs)),b7 .i64 scale,b7 .i64 day,J,J,J,J,J,b7 .i64 (aa3 (S9 cs scale day k)),i8 (S9 cs scale day k).isSome,J,J,S.c (C.t (a2m cs)),b7 .i64 cs.length,b7 .i64 k]++Jn 31,[])) cs.length (fun _=>True) [] trivial
  ⟨rfl,rfl,trivial,⟨k8 rfl,rfl,rfl,rfl,rfl,k8 rfl,g9 (by simp),rfl,trivial⟩⟩ ?_
 intro k hk _
 by_cases hlt:k<cs.length
 ·obtain ⟨c,hc⟩:∃c,cs[k]? =some c:=⟨_,lbf hlt⟩
  have cv:=aI8 c day
  have hst:S9 cs scale day (k+1)=if decide (c.scale=scale) && a0c c day && a8t cs (S9 cs scale day k) c then some k else S9 cs scale day k:=by
   conv=>lhs;unfold S9
   rw [hc]
  cases hcv:a0c c day with
  |false=>
   rw [hcv] at cv hst
   simp only [Bool.and_false,Bool.false_and,Bool.false_eq_true,if_false] at hst
   rw [← hst]
   conv=>whnf
   repeat' (first|refine zx ?_|refine qp cv ?_|refine g6 hc ?_|refine zd ?_ ?_<;>intro h<;>try omega|fail)<;>conv=>whnf
   all_goals first
    |omega
    |exact ⟨hlt,trivial,[],rfl,rfl,trivial,⟨rfl,rfl,rfl,rfl,rfl,rfl,rfl,rfl,trivial⟩⟩
  |true=>
   rw [hcv] at cv hst
   cases hf:S9 cs scale day k with
   |none=>
    rw [hf] at hst
    conv=>whnf
    repeat' (first|refine zx ?_|refine qp cv ?_|refine g6 hc ?_|refine zd ?_ ?_<;>intro h<;>try omega|fail)<;>conv=>whnf
    ·exact ⟨hlt,trivial,[],rfl,rfl,trivial,⟨rfl,rfl,rfl,g9 (by rw [hst];simp [*,a8t,aa3]),b4X (by rw [hst];simp [*,a8t]),rfl,rfl,rfl,trivial⟩⟩
    ·exact ⟨hlt,trivial,[],rfl,rfl,trivial,⟨rfl,rfl,rfl,g9 (by rw [hst];simp [*,a8t,aa3]),b4X (by rw [hst];simp [*,a8t]),rfl,rfl,rfl,trivial⟩⟩
   |some b=>
    rw [hf] at hst
    obtain ⟨hb,cb,hcb,_⟩:=T1 hf
    have hsb:=b5I hcb
    conv=>whnf
    repeat' (first|refine zx ?_|refine qp cv ?_|refine g6 hc ?_|refine g6 hcb ?_|refine zd ?_ ?_<;>intro h<;>try omega|fail)<;>conv=>whnf
    all_goals first
     |exact ⟨hlt,trivial,[],rfl,rfl,trivial,⟨rfl,rfl,rfl,g9 (by rw [hst];simp [*,a8t,aa3]),b4X (by rw [hst];simp [*,a8t]),rfl,rfl,rfl,trivial⟩⟩
     |(exfalso;simp_all;done)
 ·have hke:k=cs.length:=by omega
  subst hke
  conv=>whnf
  repeat' (first|refine zx ?_|refine zd ?_ ?_<;>intro h<;>try omega|fail)<;>conv=>whnf
  all_goals first
   |omega
   |exact v8 ⟨rfl,rfl,trivial⟩
theorem az0 (r:J3) (scale day:Int):e7 Tryz.prog 311 (.agg (r.row.map .t)::[b6X scale,b6X day].map fun x=>.c (.t x)) [] (i8 (decide (r.scale=scale) && decide (r.since<=day))) []:=by
 (refine ac Tryz.func311 ?_;(conv=>whnf);repeat (refine zy ?_;conv=>whnf))
 repeat' (first|refine zx ?_|refine zd ?_ ?_<;>intro h<;>try omega|fail)<;>conv=>whnf
 all_goals (refine i3 ?_;simp [*];try omega)
abbrev b8G (r:J3):S:=.agg (r.row.map .t)
def K3 {α:Type} (q:α->Bool):List α->Nat->Int
 |[],_=>-1
 |x::r,k=>if q x then k else K3 q r (k+1)
theorem a1T {α:Type} (q:α->Bool):∀(l:List α) (k:Nat),decide (0<=K3 q l k)=l.any q
 |[],k=>by simp [K3]
 |x::r,k=>by
  unfold K3
  rw [List.any_cons]
  cases h:q x with
  |true=>simp
  |false=>simpa using a1T q r (k+1)
theorem aU1 (rs:List J3) (hl:rs.length<=1000000) (g:FuncId) (caps:List T) (q:J3->Bool) (hg:∀r ∈ rs,e7 Tryz.prog g (b8G r::caps.map fun x=>.c (.t x)) [] (i8 (q r)) []):
 e7 Tryz.prog 332 [.c (.t (T3 rs)),.c (.t (.fn (.func g) caps))] [] (b7 .i64 (K3 q rs 0)) []:=by
 have l1:(rs.map J3.row).length=rs.length:=by simp
 (refine ac Tryz.func332 ?_;(conv=>whnf);repeat (refine zy ?_;conv=>whnf))
 repeat' (first|refine zx ?_|refine zd ?_ ?_<;>intro h<;>try omega|fail)<;>conv=>whnf
 refine j5 e8 (fun k=>([S.c (C.t (T3 rs)),S.c (C.t (T.fn (.func g) caps)),J,J,J,J,J,b7 .i64 rs.length,b7 .i64 k]++Jn 10,[])) rs.length (fun k=>K3 q (rs.drop k) k=K3 q rs 0) [] rfl
  ⟨rfl,rfl,trivial,⟨k8 rfl,k8 rfl,g9 (by simp),rfl,trivial⟩⟩ ?_
 intro k hk hI
 by_cases hlt:k<rs.length
 ·obtain ⟨r,hr⟩:∃r,rs[k]? =some r:=⟨_,lbf hlt⟩
  have hd:rs.drop k=r::rs.drop (k+1):=by
   rw [List.drop_eq_getElem_cons hlt]
   rw [lbf hlt] at hr
   injection hr with hr
   rw [hr]
  have hgr:=hg r (lbm hr)
  have ha:(b8G r::caps.map fun x=>S.c (C.t x)).all S.isT=true:=by simp [S.isT,C.isT,J3.row]
  rw [hd] at hI
  have hI:(if q r then (k:Int) else K3 q (rs.drop (k+1)) (k+1))=K3 q rs 0:=hI
  cases hq:q r with
  |true=>
   rw [hq] at hgr hI
   conv=>whnf
   repeat' (first|refine zx ?_|refine .inl ⟨_,_,F5 hgr ha rfl,?_⟩|refine g6 hr ?_|refine zd ?_ ?_<;>intro h<;>try omega|fail)<;>conv=>whnf
   all_goals first
    |omega
    |exact s9 hI
  |false=>
   rw [hq] at hgr hI
   conv=>whnf
   repeat' (first|refine zx ?_|refine .inl ⟨_,_,F5 hgr ha rfl,?_⟩|refine g6 hr ?_|refine zd ?_ ?_<;>intro h<;>try omega|fail)<;>conv=>whnf
   all_goals first
    |omega
    |exact ⟨hlt,by simpa using hI,[],rfl,rfl,trivial,⟨rfl,rfl,rfl,rfl,trivial⟩⟩
 ·have hke:k=rs.length:=by omega
  subst hke
  rw [lbo (lbR _)] at hI
  conv=>whnf
  repeat' (first|refine zx ?_|refine zd ?_ ?_<;>intro h<;>try omega|fail)<;>conv=>whnf
  all_goals first
   |omega
   |exact s9 hI
theorem ak3 (rs:List J3) (hl:rs.length<=1000000) (g:FuncId) (caps:List T) (q:J3->Bool) (hg:∀r ∈ rs,e7 Tryz.prog g (b8G r::caps.map fun x=>.c (.t x)) [] (i8 (q r)) []):
 e7 Tryz.prog 310 [.c (.t (T3 rs)),.c (.t (.fn (.func g) caps))] [] (i8 (rs.any q)) []:=by
 have ix:=aU1 rs hl g caps q hg
 (refine ac Tryz.func310 ?_;(conv=>whnf);repeat (refine zy ?_;conv=>whnf))
 repeat' (first|refine zx ?_|refine qp ix ?_|refine zd ?_ ?_<;>intro h<;>try omega|fail)<;>conv=>whnf
 all_goals (refine i3 ?_;rw [← a1T q rs 0];simp;omega)
theorem aX6 (rs:List J3) (hl:rs.length<=1000000) (scale day:Int):e7 Tryz.prog 256 [.c (.t (T3 rs)),b7 .i64 scale,b7 .i64 day] [] (i8 (a9n rs scale day)) []:=by
 have ct:=ak3 rs hl 311 [b6X scale,b6X day] _ (fun r _=>az0 r scale day)
 (refine ac Tryz.func256 ?_;(conv=>whnf);repeat ((first|refine b0x ?_|refine zy ?_);conv=>whnf))
 repeat' (first|refine zx ?_|refine qp ct ?_|refine zd ?_ ?_<;>intro h<;>try omega|fail)<;>conv=>whnf
 all_goals (refine i3 ?_;symm;assumption)
theorem a5H {c:P2} {day:Int} (h:a0c c day=true):0<=c.since∧c.since<=day∧day<=c.till∧c.till<=100000∧0<=c.grams∧c.grams<=1099511627776∧0<=c.permille∧c.permille<=1000∧0<=c.drift∧c.drift<=10000000:=by
 unfold a0c a0w btw at h
 simp only [lbN,lbJ] at h
 omega
abbrev a2e:Fr:=⟨⟨0,[]⟩,⟨0,[]⟩⟩
theorem b8K {f f':Fr} {b b':Bool} {H1:Hp} (h:f=f') (h2:b=b'):Fin 0 (.tup [frS f,i8 b]) H1 (.tup [frS f',i8 b']) []:=by
 subst h h2;exact v8 ⟨⟨rfl,rfl,rfl,rfl,trivial⟩,rfl,trivial⟩
structure b7b (c:P2) (reading day:Int):Prop where
 p0:0<=c.permille*reading
 p1:c.permille*reading<=1000*1099511627776
 d0:0<=c.drift*(day - c.since)
 d1:c.drift*(day - c.since)<=10000000*100000
theorem b7b.of {c:P2} {reading day:Int} (h:a0c c day=true) (hr:btw reading 0 1099511627776=true):b7b c reading day:=by
 have hc:=a5H h
 rw [a0F] at hr
 exact ⟨lb0 (by omega) (by omega),Int.mul_le_mul (by omega) (by omega) (by omega) (by omega),lb0 (by omega) (by omega),Int.mul_le_mul (by omega) (by omega) (by omega) (by omega)⟩
theorem b3W {c:P2} {reading day:Int} (h:a0c c day=true) (hr:btw reading 0 1099511627776=true):rl (a6i c reading day)<=9:=by
 have i:=b7b.of h hr
 have hc:=a5H h
 obtain ⟨p0,p1,d0,d1⟩:=i
 unfold a6i
 have h1:=a2s (Rat.divInt (c.permille*reading) 1000) ((c.grams+c.drift*(day - c.since):Int):Rat)
 have h2:rl (Rat.divInt (c.permille*reading) 1000)<=4:=lbS (a0m (by decide)) (by have:=a0Y (x:=c.permille*reading) (by omega) (by omega);have:=a0Y (x:=1000) (by decide) (by decide);omega)
 have h3:rl ((c.grams+c.drift*(day - c.since):Int):Rat)<=4:=by rw [a0W];have:=a0Y (x:=c.grams+c.drift*(day - c.since)) (by omega) (by omega);omega
 omega
theorem b5X (c:P2) (reading day:Int) (h:a0c c day=true):e7 Tryz.prog 257 [b42 c,b7 .i64 reading,b7 .i64 day] []
 (.tup [frS (if btw reading 0 1099511627776 then fz (a6i c reading day) else a2e),i8 (btw reading 0 1099511627776)]) []:=by
 have cv:=aI8 c day
 have wi:=a4i reading 1099511627776
 rw [h] at cv
 have hc:=a5H h
 cases hr:btw reading 0 1099511627776 with
 |false=>
  rw [hr] at wi
  (refine ac Tryz.func257 ?_;(conv=>whnf);repeat (refine zy ?_;conv=>whnf))
  repeat' (first|refine zx ?_|refine qp cv ?_|refine qp wi ?_|refine zd ?_ ?_<;>intro h<;>try omega|fail)<;>conv=>whnf
  all_goals first
   |(exfalso;simp_all;done)
   |exact v8 ⟨⟨rfl,rfl,rfl,rfl,trivial⟩,rfl,trivial⟩
 |true=>
  rw [hr] at wi
  obtain ⟨p0,p1,d0,d1⟩:=b7b.of h hr
  rw [a0F] at hr
  have fo:=b9Z (c.permille*reading) 1000 (by decide) (by omega) (by omega) (by decide) (by decide)
  have fi:=J4 (c.grams+c.drift*(day - c.since)) (by omega) (by omega)
  have h2:rl (Rat.divInt (c.permille*reading) 1000)<=4:=lbS (a0m (by decide)) (by have:=a0Y (x:=c.permille*reading) (by omega) (by omega);have:=a0Y (x:=1000) (by decide) (by decide);omega)
  have h3:rl ((c.grams+c.drift*(day - c.since):Int):Rat)<=4:=by rw [a0W];have:=a0Y (x:=c.grams+c.drift*(day - c.since)) (by omega) (by omega);omega
  have ad:=a4S (Rat.divInt (c.permille*reading) 1000) ((c.grams+c.drift*(day - c.since):Int):Rat) (by omega) (by omega)
  (refine ac Tryz.func257 ?_;(conv=>whnf);repeat (refine zy ?_;conv=>whnf))
  repeat' (first|refine zx ?_|refine qp cv ?_|refine qp wi ?_|refine qp fo ?_|refine qp fi ?_|refine qp ad ?_|refine qp 7 ?_|refine qp 15 ?_|refine bl0 [7] ?_|refine bl0 [15] ?_|refine zd ?_ ?_<;>intro h<;>try omega|fail)<;>conv=>whnf
  all_goals first
   |(exfalso;simp_all;done)
   |exact b8K rfl rfl
abbrev ivL (o:Option (Rat × Rat)):List S:=match o with
 |some (lo,hi)=>[frS (fz lo),frS (fz hi),i8 true]
 |none=>[frS a2e,frS a2e,i8 false]
theorem b6m {x y:Rat} {n:Nat} (h1:rl x<=n) (h2:rl y<=n):rl (aQ5 x y)<=n:=by unfold aQ5;split<;>assumption
theorem aH2 {cs:List P2} {rs:List J3} {scale reading day:Int} {lo hi:Rat} (h:T4 cs rs scale reading day=some (lo,hi)):rl lo<=20∧rl hi<=20:=by
 unfold T4 at h
 split at h
 ·cases h
 ·rename_i i hi
  obtain ⟨hb,c,hc,_,hcv⟩:=T1 hi
  have e:a2r cs i=c:=by unfold a2r;rw [hc];rfl
  rw [e] at h
  split at h
  ·cases h
  ·split at h
   ·rename_i hr
    injection h with h
    injection h with h1 h2
    have l1:=b3W hcv hr
    rw [a0F] at hr
    have l2:rl (reading:Rat)<=4:=by rw [a0W];have:=a0Y (x:=reading) (by omega) (by omega);omega
    have l3:=a2s (reading:Rat) (a6i c reading day)
    have l4:=aW6 (reading:Rat) (a6i c reading day)
    refine ⟨?_,by rw [← h2];omega⟩
    rw [← h1]
    exact b6m (by omega) (by rw [a6v];omega)
   ·cases h
theorem aZ2 (cs:List P2) (rs:List J3) (hl:cs.length<=1000000) (hl2:rs.length<=1000000) (scale reading day:Int):
 e7 Tryz.prog 184 [.c (.t (a2m cs)),.c (.t (T3 rs)),b7 .i64 scale,b7 .i64 reading,b7 .i64 day] [] (.tup (ivL (T4 cs rs scale reading day))) []:=by
 have f:=b7W cs scale day hl
 have r:=aX6 rs hl2 scale day
 unfold T4
 cases hf:S9 cs scale day cs.length with
 |none=>
  rw [hf] at f
  (refine ac Tryz.func184 ?_;(conv=>whnf);repeat (refine zy ?_;conv=>whnf))
  repeat' (first|refine zx ?_|refine qp f ?_|refine qp r ?_|refine qp 1 ?_|refine qp 6 ?_|refine bl0 [1] ?_|refine bl0 [6] ?_|refine zd ?_ ?_<;>intro h<;>try omega|fail)<;>conv=>whnf
  all_goals first
   |(exfalso;simp_all;done)
   |exact v8 ⟨⟨rfl,rfl,rfl,rfl,trivial⟩,⟨rfl,rfl,rfl,rfl,trivial⟩,rfl,trivial⟩
 |some i=>
  rw [hf] at f
  obtain ⟨hb,c,hc,_,hcv⟩:=T1 hf
  have e:a2r cs i=c:=by unfold a2r;rw [hc];rfl
  have er:=b5X c reading day hcv
  simp only [e]
  cases hrec:a9n rs scale day with
  |true=>
   rw [hrec] at r
   (refine ac Tryz.func184 ?_;(conv=>whnf);repeat (refine zy ?_;conv=>whnf))
   repeat' (first|refine zx ?_|refine qp f ?_|refine qp r ?_|refine qp 1 ?_|refine qp 6 ?_|refine bl0 [1] ?_|refine bl0 [6] ?_|refine zd ?_ ?_<;>intro h<;>try omega|fail)<;>conv=>whnf
   all_goals first
    |(exfalso;simp_all;done)
    |exact v8 ⟨⟨rfl,rfl,rfl,rfl,trivial⟩,⟨rfl,rfl,rfl,rfl,trivial⟩,rfl,trivial⟩
  |false=>
   rw [hrec] at r
   cases hr:btw reading 0 1099511627776 with
   |false=>
    rw [hr] at er
    (refine ac Tryz.func184 ?_;(conv=>whnf);repeat (refine zy ?_;conv=>whnf))
    repeat' (first|refine zx ?_|refine qp f ?_|refine qp r ?_|refine qp er ?_|refine qp 1 ?_|refine qp 9 ?_|refine g6 hc ?_|refine bl0 [1] ?_|refine bl0 [9] ?_|refine zd ?_ ?_<;>intro h<;>try omega|fail)<;>conv=>whnf
    all_goals first
     |exact v8 ⟨⟨rfl,rfl,rfl,rfl,trivial⟩,⟨rfl,rfl,rfl,rfl,trivial⟩,rfl,trivial⟩
     |(exfalso;simp_all;done)
   |true=>
    have l1:=b3W hcv hr
    rw [hr] at er
    rw [a0F] at hr
    have l2:rl (reading:Rat)<=4:=by rw [a0W];have:=a0Y (x:=reading) (by omega) (by omega);omega
    have fi:=J4 reading (by omega) (by omega)
    have f0:=J4 0 (by omega) (by omega)
    have sb:=aZ1 (reading:Rat) (a6i c reading day) (by omega) (by omega)
    have ad:=a4S (reading:Rat) (a6i c reading day) (by omega) (by omega)
    have l4:=aW6 (reading:Rat) (a6i c reading day)
    have mx:=b7V ((reading:Rat) - a6i c reading day) ((0:Int):Rat) (by omega) (by rw [a6v];omega)
    (refine ac Tryz.func184 ?_;(conv=>whnf);repeat (refine zy ?_;conv=>whnf))
    repeat' (first|refine zx ?_|refine qp f ?_|refine qp r ?_|refine qp er ?_|refine qp fi ?_|refine qp f0 ?_|refine qp sb ?_|refine qp ad ?_|refine qp mx ?_|refine qp 1 ?_|refine qp 9 ?_|refine qp 5 ?_|refine g6 hc ?_|refine bl0 [1] ?_|refine bl0 [9] ?_|refine bl0 [5] ?_|refine zd ?_ ?_<;>intro h<;>try omega|fail)<;>conv=>whnf
    all_goals first
     |exact v8 ⟨⟨rfl,rfl,rfl,rfl,trivial⟩,⟨rfl,rfl,rfl,rfl,trivial⟩,rfl,trivial⟩
     |(exfalso;simp_all;done)
def q9 (f:Fr):List T:=[ti f.p.sg,E5 f.p.dl,ti f.q.sg,E5 f.q.dl]
abbrev Q8 (l:List Fr):T:=.sl 4 .any (l.map q9)
abbrev F3 (l:List Fr):S:=.c (.t (Q8 l))
theorem aL3 (l:List Rat) {k:Nat} {x:Rat} (h:l[k]? =some x):(l.map fz)[k]? =some (fz x):=by rw [lba,h];rfl
theorem b9W {f f':Fr} {H1:Hp} (h:f=f'):Fin 0 (frS f) H1 (frS f') []:=by subst h;exact v8 ⟨rfl,rfl,rfl,rfl,trivial⟩
abbrev frB (f:Fr):Blk:={ mode:=.live,elem:=86,size:=4,rows:=[frC f],box:=true }
theorem a9s (f:Fr):K7 [frC f]:=by
 intro r hr c hc
 simp at hr
 subst hr
 simp [frC] at hc
 rcases hc with rfl|rfl|rfl|rfl<;>rfl
theorem b0H {x:Rat}:sgR x<0↔x<0:=by unfold sgR;split<;>(try split)<;>simp_all
theorem b1f {x y:Rat}:a1Y x y<=0↔x<=y:=by
 unfold a1Y
 split
 ·simp;grind
 ·split
  ·simp;grind
  ·simp;grind
theorem ad4 {x y:Rat}:a1Y x y > 0↔y<x:=by
 have:=b1f (x:=x) (y:=y)
 constructor
 ·intro h;have h2:¬x<=y:=fun h'=>by have:=this.2 h';omega
  grind
 ·intro h;have h2:¬a1Y x y<=0:=fun h'=>by have:=this.1 h';grind
  omega
def i9 (f:Nat->Rat):Nat->Rat
 |0=>((0:Int):Rat)
 |n+1=>i9 f n+f n
theorem X6:((0:Int):Rat)=0:=rfl
theorem j0 {f g:Nat->Rat}:∀{n:Nat},(∀ m,m<n->f m=g m)->i9 f n=i9 g n
 |0,_=>rfl
 |n+1,h=>by simp only [i9];rw [j0 fun m hm=>h m (by omega),h n (by omega)]
theorem a74 (f:Nat->Rat) (v:Rat) (d:Nat):∀n,i9 (fun p=>if p=d then f p+v else f p) n=i9 f n+(if d<n then v else 0)
 |0=>by simp only [i9,X6];rw [if_neg (by omega)];grind
 |n+1=>by
  simp only [i9]
  rw [a74 f v d n]
  rcases Nat.lt_trichotomy d n with h|h|h
  ·rw [if_pos h,if_neg (by omega),if_pos (by omega)];grind
  ·subst h;rw [if_neg (by omega),if_pos rfl,if_pos (by omega)];grind
  ·rw [if_neg (by omega),if_neg (by omega),if_neg (by omega)];grind
theorem b1X (f:Nat->Rat) (v:Rat) {s d n:Nat} (hs:s<n) (hd:d<n) (hsd:s≠d):i9 (fun p=>if p=s then f p - v else if p=d then f p+v else f p) n=i9 f n:=by
 have e:∀m,m<n->(if m=s then f m - v else if m=d then f m+v else f m)=(if m=s then (if m=d then f m+v else f m)+-v else (if m=d then f m+v else f m)):=fun m _=>by
  by_cases h:m=s
  ·subst h;rw [if_pos rfl,if_pos rfl,if_neg hsd];grind
  ·rw [if_neg h,if_neg h]
 rw [j0 e,a74 (fun p=>if p=d then f p+v else f p) (-v) s n,a74 f v d n,if_pos hs,if_pos hd]
 grind
theorem getD_some {l:List Rat} {m:Nat} (h:m<l.length):l[m]? =some (l.getD m 0):=by rw [lbl,lbf h];rfl
theorem U4 {α:Type} {p:Nat->α->Bool} {l:List α}:∀{k:Nat} {x:Int},x ∈ y3 p k l↔∃i m,l[i]? =some m∧p (k+i) m=true∧x=((k+i:Nat):Int):=by
 induction l with
 |nil=>intro k x;simp [y3]
 |cons a r ih=>
  intro k x
  have step:x ∈ y3 p (k+1) r↔∃i m,(a::r)[i+1]? =some m∧p (k+(i+1)) m=true∧x=((k+(i+1):Nat):Int):=by
   rw [ih]
   constructor
   ·rintro ⟨i,m,h1,h2,h3⟩
    exact ⟨i,m,by simpa using h1,by rw [show k+(i+1)=k+1+i from by omega];exact h2,by rw [h3];omega⟩
   ·rintro ⟨i,m,h1,h2,h3⟩
    exact ⟨i,m,by simpa using h1,by rw [show k+1+i=k+(i+1) from by omega];exact h2,by rw [h3];omega⟩
  unfold y3
  by_cases hp:p k a=true
  ·rw [if_pos hp,lbB,step]
   constructor
   ·rintro (rfl|⟨i,m,h⟩)
    ·exact ⟨0,a,rfl,hp,rfl⟩
    ·exact ⟨i+1,m,h⟩
   ·rintro ⟨i,m,h1,h2,h3⟩
    cases i with
    |zero=>left;simpa using h3
    |succ i=>right;exact ⟨i,m,h1,h2,h3⟩
  ·rw [if_neg hp,step]
   constructor
   ·rintro ⟨i,m,h⟩
    exact ⟨i+1,m,h⟩
   ·rintro ⟨i,m,h1,h2,h3⟩
    cases i with
    |zero=>simp at h1;subst h1;exact absurd h2 hp
    |succ i=>exact ⟨i,m,h1,h2,h3⟩
theorem a93 {α:Type} (p:Nat->α->Bool) (l:List α):∀k,(y3 p k l).Pairwise (·<·):=by
 induction l with
 |nil=>intro k;simp [y3]
 |cons a r ih=>
  intro k
  unfold y3
  split
  ·rw [List.pairwise_cons]
   refine ⟨fun x hx=>?_,ih (k+1)⟩
   obtain ⟨i,m,_,_,rfl⟩:=U4.1 hx
   omega
  ·exact ih (k+1)
def Asc (l:List Int) (n:Int):Prop:=(∀ (i:Nat) (x:Int),l[i]? =some x->0<=x∧x<n)∧∀(i:Nat) (x y:Int),l[i]? =some x->l[i+1]? =some y->x<y
theorem Asc.of_sorted {l:List Int} {n:Int} (h1:l.Pairwise (·<·)) (h2:∀x ∈ l,0<=x∧x<n):Asc l n:=by
 refine ⟨fun i x hx=>h2 x (lbm hx),fun i x y hx hy=>?_⟩
 obtain ⟨hi,rfl⟩:=lbe.1 hx
 obtain ⟨hj,rfl⟩:=lbe.1 hy
 exact List.pairwise_iff_getElem.1 h1 i (i+1) hi hj (by omega)
theorem ay4 {α:Type} (p:Nat->α->Bool) (l:List α):Asc (y3 p 0 l) l.length:=by
 refine Asc.of_sorted (a93 p l 0) (fun x hx=>?_)
 obtain ⟨i,m,hm,_,rfl⟩:=U4.1 hx
 have:=(lbe.1 hm).1
 omega
theorem b6l (n:Int):Asc [] n:=⟨fun i x h=>by simp at h,fun i x y h=>by simp at h⟩
theorem ao7 (e:Ev) (hh mat lo hi:Int):Asc (L2 e hh mat lo hi) e.moves.length:=by
 unfold L2;split
 ·exact ay4 _ _
 ·exact b6l _
theorem ac5 {e:Ev} {m:v7} (h:O0 e m=true):z7 e m.dst≠0:=by
 simp [O0] at h;exact h.1.2
theorem a7l {e:Ev} {G:List (List Rat)} {k:Nat} {x:v7} (hx:e.moves[k]? =some x):stk e G (k+1)=a7X x (hAt G k) (stk e G k):=by
 conv=>lhs;unfold stk
 rw [hx]
theorem a95 {e:Ev} {G:List (List Rat)} {k:Nat} (hx:e.moves[k]? =none):stk e G (k+1)=stk e G k:=by
 conv=>lhs;unfold stk
 rw [hx]
theorem aV2 {e:Ev} {x:v7} (h:O0 e x=true) (ha:x.all=true):z7 e x.src≠0:=by
 unfold O0 at h
 simp only [lbN,lbJ] at h
 have:=h.1.1.2
 rw [ha] at this
 simpa using this
def N3 (e:Ev) (x:v7):Option (Rat × Rat):=if x.scale=-1 then none else T4 e.certs e.recalls x.scale x.reading x.day
structure L1 where
 mv:Int
 kind:Int
 grams:Int
structure F2 where
 mv:Int
 kind:Int
structure g7 where
 ev:Ev
 finds:List L1
 cleans:List F2
def a2f (e:Ev) (mv kind:Int):Int:=if mv<0∨(e.moves.length:Int)<=mv then 4 else if kind<0∨8<=kind then 1 else 0
def N9 (e:Ev):List L1->Int
 |[]=>0
 |f::r=>if a2f e f.mv f.kind≠0 then a2f e f.mv f.kind else if f.grams<1∨1099511627776<f.grams then 3 else N9 e r
def P6 (e:Ev):List F2->Int
 |[]=>0
 |c::r=>if a2f e c.mv c.kind≠0 then a2f e c.mv c.kind else P6 e r
def s6 (t:g7):Int:=
 if J8 t.ev≠0 then J8 t.ev else if 20<t.finds.length∨50<t.cleans.length then 6
 else if N9 t.ev t.finds≠0 then N9 t.ev t.finds else P6 t.ev t.cleans
def j8 (l:List L1) (kind:Int) (i:Nat):List Int:=(l.filter fun f=>decide (f.kind=kind) && decide (f.mv=(i:Int))).map (·.grams)
def n9 (l:List F2) (kind:Int) (i:Nat):Nat:=(l.filter fun c=>decide (c.kind=kind) && decide (c.mv=(i:Int))).length
def col (z:List Rat):List (List Rat):=z.map fun v=>[v]
theorem a99 (z:List Rat) (k:Nat):hAt (col z) k 0=z.getD k 0:=by
 unfold hAt col
 cases h:z[k]?<;>simp [lbl,h]
def F8 (e:Ev) (z:List Rat) (k p:Nat):Rat:=stk e (col z) k p 0
def ak4 (iv:Option (Rat × Rat)) (v:Rat):Bool:=match iv with
 |none=>true
 |some (_,hi)=>decide (v<=hi)
def a0G (t:g7) (kind:Int) (i:Nat) (x:v7) (v:Rat):Int:=
 if ak4 (N3 t.ev x) v=false then 20 else if (j8 t.finds kind i).any (fun g=>decide (v<(g:Rat))) then 24
 else if 0<n9 t.cleans kind i∧v≠0 then 13 else 0
def ap3 (e:Ev) (x:v7) (v f:Rat):Int:=if v<0 then 3 else if z7 e x.src≠0∧f<v then 4 else if x.all=true∧v≠f then 7 else 0
def a0l (t:g7) (kind:Int) (i:Nat) (x:v7) (v f:Rat):Int:=if ap3 t.ev x v f≠0 then ap3 t.ev x v f else a0G t kind i x v
def tAt (t:g7) (kind:Int) (z:List Rat) (i:Nat) (x:v7):Int:=a0l t kind i x (z.getD i 0) (F8 t.ev z i x.src.toNat)
def X8 (t:g7) (kind:Int) (z:List Rat):Nat->List v7->Int
 |_,[]=>0
 |k,x::r=>if tAt t kind z k x≠0 then tAt t kind z k x else X8 t kind z (k+1) r
def Q9 (t:g7) (kind:Int) (z:List Fr):Int:=
 if s6 t≠0∨kind<0∨8<=kind then 1 else if z.length≠t.ev.moves.length then 2
 else if z.all N1 then X8 t kind (z.map fv) 0 t.ev.moves else 2
theorem a37 {t:g7} {kind:Int} {z:List Rat}:∀{ms:List v7} {k:Nat},X8 t kind z k ms=0↔∀j x,ms[j]? =some x->tAt t kind z (k+j) x=0
 |[],k=>by simp [X8]
 |y::r,k=>by
  unfold X8
  constructor
  ·intro h j x hx
   by_cases h0:tAt t kind z k y=0
   ·rw [if_neg (by simpa using h0)] at h
    cases j with
    |zero=>simp at hx;subst hx;exact h0
    |succ j=>rw [show k+(j+1)=k+1+j by omega];exact a37.1 h j x (by simpa using hx)
   ·rw [if_pos h0] at h;exact absurd h h0
  ·intro h
   have h0:=h 0 y rfl
   rw [if_neg (by simpa using h0)]
   exact a37.2 fun j x hx=>by rw [show k+1+j=k+(j+1) by omega];exact h (j+1) x (by simpa using hx)
structure b63 (e:Ev) (x:v7) (v f:Rat):Prop where
 pos:0<=v
 most:z7 e x.src≠0->v<=f
 all:x.all=true->v=f
theorem ag8 {e:Ev} {x:v7} {v f:Rat}:ap3 e x v f=0↔b63 e x v f:=by
 unfold ap3
 by_cases h1:v<0
 ·rw [if_pos h1];exact ⟨fun h=>(by cases h),fun h=>absurd h.pos (by grind)⟩
 ·rw [if_neg h1]
  by_cases h2:z7 e x.src≠0∧f<v
  ·rw [if_pos h2];exact ⟨fun h=>(by cases h),fun h=>absurd (h.most h2.1) (by grind)⟩
  ·rw [if_neg h2]
   by_cases h3:x.all=true∧v≠f
   ·rw [if_pos h3];exact ⟨fun h=>(by cases h),fun h=>absurd (h.all h3.1) h3.2⟩
   ·rw [if_neg h3]
    refine ⟨fun _=>⟨lb3.1 h1,fun h=>lb3.1 fun h'=>h2 ⟨h,h'⟩,fun h=>?_⟩,fun _=>rfl⟩
    by_cases h4:v=f
    ·exact h4
    ·exact absurd ⟨h,h4⟩ h3
structure aD6 (t:g7) (kind:Int) (i:Nat) (x:v7) (v:Rat):Prop where
 cap:ak4 (N3 t.ev x) v=true
 fin:∀g ∈ j8 t.finds kind i,(g:Rat)<=v
 cln:0<n9 t.cleans kind i->v=0
theorem aB6 {t:g7} {kind:Int} {i:Nat} {x:v7} {v:Rat}:a0G t kind i x v=0↔aD6 t kind i x v:=by
 unfold a0G
 by_cases h1:ak4 (N3 t.ev x) v=false
 ·rw [if_pos h1];exact ⟨fun h=>(by cases h),fun h=>(by rw [h.cap] at h1;cases h1)⟩
 ·rw [if_neg h1]
  by_cases h2:(j8 t.finds kind i).any (fun g=>decide (v<(g:Rat)))=true
  ·rw [if_pos h2]
   obtain ⟨g,hg,hv⟩:=lbx.1 h2
   exact ⟨fun h=>(by cases h),fun h=>absurd (h.fin g hg) (by have:=lbM hv;grind)⟩
  ·rw [if_neg h2]
   by_cases h3:0<n9 t.cleans kind i∧v≠0
   ·rw [if_pos h3];exact ⟨fun h=>(by cases h),fun h=>absurd (h.cln h3.1) h3.2⟩
   ·rw [if_neg h3]
    refine ⟨fun _=>⟨by simpa using h1,fun g hg=>lb3.1 fun h'=>h2 (lbx.2 ⟨g,hg,lbI h'⟩),fun h=>?_⟩,fun _=>rfl⟩
    by_cases h4:v=0
    ·exact h4
    ·exact absurd ⟨h,h4⟩ h3
theorem a8J {t:g7} {kind:Int} {i:Nat} {x:v7} {v f:Rat}:a0l t kind i x v f=0↔b63 t.ev x v f∧aD6 t kind i x v:=by
 unfold a0l
 by_cases h:ap3 t.ev x v f≠0
 ·rw [if_pos h];exact ⟨fun h'=>absurd h' h,fun h'=>absurd (ag8.2 h'.1) h⟩
 ·rw [if_neg h,aB6]
  exact ⟨fun h'=>⟨ag8.1 (by simpa using h),h'⟩,fun h'=>h'.2⟩
structure a3U (t:g7) (kind:Int) (z:List Rat):Prop where
 tr:s6 t=0
 k0:0<=kind
 k1:kind<8
 len:z.length=t.ev.moves.length
 step:∀i x,t.ev.moves[i]? =some x->b63 t.ev x (z.getD i 0) (F8 t.ev z i x.src.toNat)∧aD6 t kind i x (z.getD i 0)
theorem ay9 (z:List Rat):(z.map fz).map fv=z:=by
 rw [List.map_map]
 conv=>rhs;rw [← List.map_id z]
 exact lbp fun x _=>b9R x
theorem aP0 {t:g7} {kind:Int} {z:List Fr}:Q9 t kind z=0↔∃Z:List Rat,z=Z.map fz∧a3U t kind Z:=by
 unfold Q9
 by_cases h1:s6 t≠0∨kind<0∨8<=kind
 ·rw [if_pos h1]
  refine ⟨fun h=>(by cases h),fun ⟨Z,_,h⟩=>?_⟩
  have:=h.tr;have:=h.k0;have:=h.k1
  omega
 rw [if_neg h1]
 by_cases h2:z.length≠t.ev.moves.length
 ·rw [if_pos h2]
  refine ⟨fun h=>(by cases h),fun ⟨Z,hz,h⟩=>?_⟩
  subst hz
  exact absurd (by rw [lbr];exact h.len) h2
 rw [if_neg h2]
 by_cases h3:z.all N1=true
 ·rw [if_pos h3]
  obtain ⟨Z,rfl⟩:=ah8 h3
  rw [ay9,a37]
  constructor
  ·intro h
   refine ⟨Z,rfl,by omega,by omega,by omega,by simpa using h2,fun i x hx=>?_⟩
   have:=h i x hx
   rw [Nat.zero_add] at this
   exact a8J.1 this
  ·rintro ⟨Y,hy,h⟩
   have e:Z=Y:=by rw [← ay9 Z,←ay9 Y,hy]
   subst e
   intro j x hx
   rw [Nat.zero_add]
   exact a8J.2 (h.step j x hx)
 ·rw [if_neg h3]
  refine ⟨fun h=>(by cases h),fun ⟨Z,hz,h⟩=>?_⟩
  subst hz
  exact absurd (lbw.2 fun f hf=>by obtain ⟨x,_,rfl⟩:=lby.1 hf;exact a9F x) h3
theorem B4 {t:g7} (h:s6 t=0):J8 t.ev=0∧t.finds.length<=20∧t.cleans.length<=50∧N9 t.ev t.finds=0∧P6 t.ev t.cleans=0:=by
 unfold s6 at h
 by_cases h1:J8 t.ev≠0
 ·rw [if_pos h1] at h;exact absurd h h1
 rw [if_neg h1] at h
 by_cases h2:20<t.finds.length∨50<t.cleans.length
 ·rw [if_pos h2] at h;cases h
 rw [if_neg h2] at h
 by_cases h3:N9 t.ev t.finds≠0
 ·rw [if_pos h3] at h;exact absurd h h3
 rw [if_neg h3] at h
 exact ⟨by simpa using h1,by omega,by omega,by simpa using h3,h⟩
theorem a7C {t:g7} (h1:J8 t.ev=0) (h2:t.finds.length<=20) (h3:t.cleans.length<=50) (h4:N9 t.ev t.finds=0) (h5:P6 t.ev t.cleans=0):s6 t=0:=by
 unfold s6
 rw [if_neg (by simp [h1]),if_neg (by omega),if_neg (by simp [h4]),h5]
theorem P3 {e:Ev}:∀{l:List L1},N9 e l=0->∀f ∈ l,0<=f.mv∧f.mv<e.moves.length∧0<=f.kind∧f.kind<8∧1<=f.grams∧f.grams<=1099511627776
 |[],_,f,hf=>by cases hf
 |g::r,h,f,hf=>by
  unfold N9 at h
  by_cases h1:a2f e g.mv g.kind≠0
  ·rw [if_pos h1] at h;exact absurd h h1
  rw [if_neg h1] at h
  by_cases h2:g.grams<1∨1099511627776<g.grams
  ·rw [if_pos h2] at h;cases h
  rw [if_neg h2] at h
  rcases lbB.1 hf with rfl|hf
  ·unfold a2f at h1
   by_cases h3:f.mv<0∨(e.moves.length:Int)<=f.mv
   ·rw [if_pos h3] at h1;exact absurd (by decide) h1
   rw [if_neg h3] at h1
   by_cases h4:f.kind<0∨8<=f.kind
   ·rw [if_pos h4] at h1;exact absurd (by decide) h1
   omega
  ·exact P3 h f hf
def b7H (t:g7) (f:L1):g7:={ t with finds:=t.finds++[f] }
def b7D (t:g7) (c:F2):g7:={ t with cleans:=t.cleans++[c] }
theorem a6o (l:List L1) (f:L1) (kind:Int) (i:Nat):j8 (l++[f]) kind i=j8 l kind i++(if f.kind=kind∧f.mv=(i:Int) then [f.grams] else []):=by
 unfold j8
 rw [lb9,lbD]
 by_cases h:f.kind=kind∧f.mv=(i:Int)
 ·rw [if_pos h];simp [h.1,h.2]
 ·rw [if_neg h]
  have:(decide (f.kind=kind) && decide (f.mv=(i:Int)))=false:=by
   rw [← lbQ];simp only [lbN,lbJ];exact h
  simp [this]
theorem a0H (l:List F2) (c:F2) (kind:Int) (i:Nat):n9 (l++[c]) kind i=n9 l kind i+(if c.kind=kind∧c.mv=(i:Int) then 1 else 0):=by
 unfold n9
 rw [lb9,lbq]
 by_cases h:c.kind=kind∧c.mv=(i:Int)
 ·rw [if_pos h];simp [h.1,h.2]
 ·rw [if_neg h]
  have:(decide (c.kind=kind) && decide (c.mv=(i:Int)))=false:=by
   rw [← lbQ];simp only [lbN,lbJ];exact h
  simp [this]
theorem b0d {t:g7} {f:L1} {kind:Int} {z:List Rat} (h0:s6 t=0) (h:a3U (b7H t f) kind z):a3U t kind z:=by
 refine ⟨h0,h.k0,h.k1,h.len,fun i x hx=>?_⟩
 obtain ⟨h1,h2⟩:=h.step i x hx
 refine ⟨h1,h2.cap,fun g hg=>h2.fin g ?_,h2.cln⟩
 show g ∈ j8 (t.finds++[f]) kind i
 rw [a6o];exact lbA.2 (.inl hg)
theorem aX0 {t:g7} {c:F2} {kind:Int} {z:List Rat} (h0:s6 t=0) (h:a3U (b7D t c) kind z):a3U t kind z:=by
 refine ⟨h0,h.k0,h.k1,h.len,fun i x hx=>?_⟩
 obtain ⟨h1,h2⟩:=h.step i x hx
 refine ⟨h1,h2.cap,h2.fin,fun hg=>h2.cln ?_⟩
 show 0<n9 (t.cleans++[c]) kind i
 rw [a0H];omega
theorem b1a {e:Ev} {W A B:List (List Rat)} {a b:Rat} {m ma mb:Nat} (h:∀i,i<e.moves.length->hAt W i m=a*hAt A i ma+b*hAt B i mb):∀k p,stk e W k p m=a*stk e A k p ma+b*stk e B k p mb
 |0,p=>by simp only [stk,X6];grind
 |k+1,p=>by
  have ih:=b1a h k p
  cases hx:e.moves[k]? with
  |none=>rw [a95 hx,a95 hx,a95 hx];exact ih
  |some x=>
   have hk:k<e.moves.length:=(lbe.1 hx).1
   rw [a7l hx,a7l hx,a7l hx]
   unfold a7X
   have hv:=h k hk
   split
   ·rw [ih,hv];grind
   ·split
    ·rw [ih,hv];grind
    ·exact ih
theorem b4V {e:Ev} {w y z:List Rat} {a b:Rat} (h:∀i,i<e.moves.length->w.getD i 0=a*z.getD i 0+b*y.getD i 0) (k p:Nat):F8 e w k p=a*F8 e z k p+b*F8 e y k p:=
 b1a (fun i hi=>by rw [a99,a99,a99];exact h i hi) k p
theorem aI2 {a b c:Rat} (h:a<=b) (hc:0<=c):c*a<=c*b:=by
 have:=lb1 hc (show 0<=b - a by grind)
 grind
theorem aT5 {a c:Rat} (h:0<=a) (hc:c<=1):c*a<=a:=by
 have:=lb1 (show 0<=1 - c by grind) h
 grind
def Z8 (t:g7):g7:={ t with finds:=[] }
theorem ap5 {t:g7} (h:s6 t=0):s6 (Z8 t)=0:=by
 obtain ⟨q1,q2,q3,q4,q5⟩:=B4 h
 exact a7C q1 (by simp [Z8]) q3 rfl q5
theorem b2l {t:g7} {kind:Int} {z w:List Rat} {s:Rat} (hz:a3U t kind z) (s0:0<=s) (s1:s<=1) (hl:w.length=z.length)
 (hw:∀i,i<t.ev.moves.length->w.getD i 0=s*z.getD i 0):a3U (Z8 t) kind w:=by
 have hw':∀i,i<t.ev.moves.length->w.getD i 0=s*z.getD i 0+0*z.getD i 0:=fun i hi=>by rw [hw i hi];grind
 refine ⟨ap5 hz.tr,hz.k0,hz.k1,by rw [hl];exact hz.len,fun i x hx=>?_⟩
 obtain ⟨a1,a2⟩:=hz.step i x hx
 have hi:i<t.ev.moves.length:=(lbe.1 hx).1
 have hs:F8 (Z8 t).ev w i x.src.toNat=s*F8 t.ev z i x.src.toNat:=by
  show F8 t.ev w i x.src.toNat=_
  rw [b4V hw'];grind
 rw [hw i hi,hs]
 refine ⟨⟨lb1 s0 a1.pos,fun hk=>aI2 (a1.most hk) s0,fun ha=>by rw [a1.all ha]⟩,?_,fun g hg=>(by cases hg),fun hc=>?_⟩
 ·have c1:=a2.cap
  show ak4 (N3 t.ev x) _=true
  cases hiv:N3 t.ev x with
  |none=>rfl
  |some p=>
   obtain ⟨lo,hi'⟩:=p
   rw [hiv] at c1
   simp only [ak4,lbJ] at *
   have h1:=aT5 a1.pos s1
   grind
 ·rw [a2.cln hc];grind
def a1K (e:Ev) (z:List Rat) (j:Nat):Rat:=match e.moves[j]? with
 |none=>0
 |some x=>if z7 e x.src=0 then z.getD j 0 else 0
theorem a2G {e:Ev} {z:List Rat} {k:Nat} {x:v7} (hx:e.moves[k]? =some x) (p:Nat):F8 e z (k+1) p=if x.src=(p:Int) then F8 e z k p - z.getD k 0 else if x.dst=(p:Int) then F8 e z k p+z.getD k 0 else F8 e z k p:=by
 unfold F8
 rw [a7l hx]
 unfold a7X
 rw [a99]
theorem ae6 {e:Ev} {z:List Rat} {k:Nat} (hx:e.moves[k]? =none) (p:Nat):F8 e z (k+1) p=F8 e z k p:=by
 unfold F8
 rw [a95 hx]
def a0g (e:Ev) (z:List Rat) (k p:Nat):Rat:=if z7 e p=0 then 0 else F8 e z k p
theorem aO3 {t:g7} {kind:Int} {z:List Rat} (h:a3U t kind z):∀k p:Nat,z7 t.ev p≠0->0<=F8 t.ev z k p
 |0,p,_=>lb2
 |k+1,p,hp=>by
  have ih:=aO3 h k p hp
  cases hx:t.ev.moves[k]? with
  |none=>rw [ae6 hx];exact ih
  |some x=>
   obtain ⟨h1,_⟩:=h.step k x hx
   have hz:=h1.pos
   rw [a2G hx]
   split
   ·rename_i hs
    have:=h1.most (by rw [hs];exact hp)
    rw [hs,show ((p:Int)).toNat=p by omega] at this
    grind
   ·split
    ·grind
    ·exact ih
theorem aL1 {t:g7} {kind:Int} {z:List Rat} (h:a3U t kind z):∀k,i9 (a0g t.ev z k) t.ev.places.length=i9 (a1K t.ev z) k
 |0=>by
  have:∀n,i9 (a0g t.ev z 0) n=0:=fun n=>by
   induction n with
   |zero=>rfl
   |succ n ih=>
    simp only [i9];rw [ih]
    have:a0g t.ev z 0 n=0:=by unfold a0g;split<;>rfl
    rw [this];grind
  exact this _
 |k+1=>by
  have ih:=aL1 h k
  have h0:=(B4 h.tr).1
  simp only [i9]
  rw [← ih]
  cases hx:t.ev.moves[k]? with
  |none=>
   have e1:a1K t.ev z k=0:=by unfold a1K;rw [hx]
   rw [e1]
   have:a0g t.ev z (k+1)=a0g t.ev z k:=by funext p;unfold a0g;rw [ae6 hx]
   rw [this];grind
  |some x=>
   have hm:=K8 h0 (lbm hx)
   have ms:=R6 hm
   have md:=a3s hm
   have hd:=ac5 hm
   have hne:x.src≠x.dst:=by unfold O0 at hm;simp only [lbN,lbJ] at hm;exact hm.1.1.1.1.1.2
   by_cases hb:z7 t.ev x.src=0
   ·have e1:a1K t.ev z k=z.getD k 0:=by unfold a1K;rw [hx];simp [hb]
    rw [e1]
    have:=a74 (a0g t.ev z k) (z.getD k 0) x.dst.toNat t.ev.places.length
    rw [if_pos (by omega)] at this
    rw [← this]
    refine j0 fun p _=>?_
    unfold a0g
    rw [a2G hx]
    by_cases c2:p=x.dst.toNat
    ·have:x.dst=(p:Int):=by omega
     have hk:z7 t.ev (p:Int)≠0:=by rw [← this];exact hd
     rw [if_pos c2]
     simp only [if_neg hk]
     rw [if_neg (show ¬x.src=(p:Int) by omega),if_pos this]
    ·rw [if_neg c2]
     by_cases c1:x.src=(p:Int)
     ·simp only [← c1,if_pos hb]
     ·rw [if_neg c1,if_neg (show ¬x.dst=(p:Int) by omega)]
   ·have e1:a1K t.ev z k=0:=by unfold a1K;rw [hx];simp [hb]
    rw [e1]
    have:=b1X (a0g t.ev z k) (z.getD k 0) (s:=x.src.toNat) (d:=x.dst.toNat) (n:=t.ev.places.length) (by omega) (by omega) (by omega)
    rw [show i9 (a0g t.ev z k) t.ev.places.length+0=i9 (a0g t.ev z k) t.ev.places.length by grind,←this]
    refine j0 fun p _=>?_
    unfold a0g
    rw [a2G hx]
    by_cases c1:p=x.src.toNat
    ·have:x.src=(p:Int):=by omega
     have hk:z7 t.ev (p:Int)≠0:=by rw [← this];exact hb
     rw [if_pos c1,if_pos this]
     simp only [if_neg hk]
    ·rw [if_neg c1,if_neg (c:=x.src=(p:Int)) (by omega)]
     by_cases c2:p=x.dst.toNat
     ·have:x.dst=(p:Int):=by omega
      have hk:z7 t.ev (p:Int)≠0:=by rw [← this];exact hd
      rw [if_pos c2,if_pos this]
      simp only [if_neg hk]
     ·rw [if_neg c2,if_neg (c:=x.dst=(p:Int)) (by omega)]
theorem a1D {f:Nat->Rat}:∀{n:Nat},(∀ p,p<n->0<=f p)->0<=i9 f n
 |0,_=>lb2
 |n+1,h=>by
  have h1:=a1D (n:=n) fun p hp=>h p (by omega)
  have h2:=h n (by omega)
  simp only [i9];grind
theorem a9I {f:Nat->Rat}:∀{n p:Nat},(∀ p,p<n->0<=f p)->p<n->f p<=i9 f n
 |n+1,p,h,hp=>by
  simp only [i9]
  rcases Nat.lt_or_ge p n with hpn|hpn
  ·have h1:=a9I (f:=f) (n:=n) (p:=p) (fun q hq=>h q (by omega)) hpn
   have h2:=h n (by omega)
   grind
  ·obtain rfl:p=n:=by omega
   have h1:=a1D (f:=f) (n:=p) fun q hq=>h q (by omega)
   grind
theorem aK6 {t:g7} {kind:Int} {z:List Rat} (h:a3U t kind z) (j:Nat):0<=a1K t.ev z j:=by
 unfold a1K
 cases hx:t.ev.moves[j]? with
 |none=>exact lb2
 |some x=>
  simp only
  split
  ·exact (h.step j x hx).1.pos
  ·exact lb2
theorem b6d {t:g7} {kind:Int} {z:List Rat} (h:a3U t kind z) {i:Nat} {x:v7} (hx:t.ev.moves[i]? =some x):z.getD i 0<=i9 (a1K t.ev z) (i+1):=by
 have h0:=(B4 h.tr).1
 have hm:=K8 h0 (lbm hx)
 have ms:=R6 hm
 by_cases hb:z7 t.ev x.src=0
 ·have e1:a1K t.ev z i=z.getD i 0:=by unfold a1K;rw [hx];simp [hb]
  rw [← e1]
  exact a9I (fun q _=>aK6 h q) (by omega)
 ·have h1:=(h.step i x hx).1.most hb
  have hk:z7 t.ev ((x.src.toNat:Nat):Int)≠0:=by rw [show ((x.src.toNat:Nat):Int)=x.src by omega];exact hb
  have h2:a0g t.ev z i x.src.toNat=F8 t.ev z i x.src.toNat:=by unfold a0g;rw [if_neg hk]
  have h3:a0g t.ev z i x.src.toNat<=i9 (a0g t.ev z i) t.ev.places.length:=by
   refine a9I (fun q _=>?_) (by omega)
   unfold a0g
   split
   ·exact lb2
   ·exact aO3 h i q ‹_›
  rw [aL1 h] at h3
  have h4:=aK6 h i
  simp only [i9]
  grind
theorem b50 {t:g7} {kind:Int} {z:List Rat} (h:a3U t kind z) {i:Nat} {x:v7} (hx:t.ev.moves[i]? =some x) {f:L1} (hf:f ∈ t.finds) (h1:f.mv=(i:Int)) (h2:f.kind=kind):(f.grams:Rat)<=i9 (a1K t.ev z) (i+1):=by
 have:=(h.step i x hx).2.fin f.grams (by
  unfold j8
  exact lby.2 ⟨f,lbz.2 ⟨hf,by simp [h1,h2]⟩,rfl⟩)
 have h3:=b6d h hx
 grind
structure H6 where
 terms:List (Int × Rat)
 kind:Int
 value:Rat
structure k7 where
 n:Int
 rows:List H6
def m6 (l:List (Int × Rat)) (z:List Rat):Rat:=l.foldl (fun a t=>a+t.2*z.getD t.1.toNat 0) ((0:Int):Rat)
theorem Q5 (l:List (Int × Rat)) (t:Int × Rat) (z:List Rat):m6 (l++[t]) z=m6 l z+t.2*z.getD t.1.toNat 0:=by unfold m6;rw [List.foldl_append];rfl
def k6:Int->Int->List (Int × Rat)->Bool
 |_,_,[]=>true
 |last,n,t::r=>decide (last<t.1) && decide (t.1<n) && decide (t.2≠0) && k6 t.1 n r
def B5 (n:Int) (w:H6):Bool:=k6 (-1) n w.terms && decide (0<=w.kind) && decide (w.kind<3)
def m8 (s:k7):Bool:=decide (0<=s.n) && decide (s.n<=1500) && decide (s.rows.length<=6000) && s.rows.all (B5 s.n)
def U5 (w:H6) (z:List Rat):Bool:=!((decide (m6 w.terms z<w.value) && decide (w.kind≠1)) || (decide (w.value<m6 w.terms z) && decide (w.kind≠0)))
def i7 (s:k7) (z:List Rat):Bool:=m8 s && decide ((z.length:Int)=s.n) && z.all (fun v=>decide (0<=v)) && s.rows.all (fun w=>U5 w z)
def t7 (e:Ev) (p:Int):Nat->List (Int × Rat)
 |0=>[]
 |k+1=>match e.moves[k]? with
  |none=>t7 e p k
  |some y=>if y.dst=p then t7 e p k++[((k:Int),((1:Int):Rat))] else if y.src=p then t7 e p k++[((k:Int),((-1:Int):Rat))] else t7 e p k
def D7 (e:Ev) (i:Nat) (x:v7):H6:=⟨t7 e x.src i++[((i:Int),((-1:Int):Rat))],if x.all then 2 else 0,((0:Int):Rat)⟩
def A0 (i:Nat) (kind:Int) (v:Rat):H6:=⟨[((i:Int),((1:Int):Rat))],kind,v⟩
def O7 (iv:Option (Rat × Rat)) (i:Nat):List H6:=match iv with
 |none=>[]
 |some (_,hi)=>[A0 i 1 hi]
def M6 (t:g7) (kind:Int) (i:Nat) (x:v7):List H6:=
 (if z7 t.ev x.src=0 then [] else [D7 t.ev i x])++O7 (N3 t.ev x) i++(j8 t.finds kind i).map (fun g:Int=>A0 i 0 (g:Rat))++List.replicate (n9 t.cleans kind i) (A0 i 2 ((0:Int):Rat))
def z6 (t:g7) (kind:Int):Nat->List H6
 |0=>[]
 |k+1=>match t.ev.moves[k]? with
  |none=>z6 t kind k
  |some x=>z6 t kind k++M6 t kind k x
def m7 (t:g7) (kind:Int):k7:=⟨t.ev.moves.length,z6 t kind t.ev.moves.length⟩
theorem a9P {e:Ev} (h0:J8 e=0) (z:List Rat) (p:Nat):∀k,m6 (t7 e p k) z=F8 e z k p
 |0=>rfl
 |k+1=>by
  have ih:=a9P h0 z p k
  unfold t7
  cases hx:e.moves[k]? with
  |none=>rw [ae6 hx];exact ih
  |some y=>
   have hm:=K8 h0 (lbm hx)
   have hne:y.src≠y.dst:=by unfold O0 at hm;simp only [lbN,lbJ] at hm;exact hm.1.1.1.1.1.2
   rw [a2G hx]
   simp only
   by_cases c1:y.dst=(p:Int)
   ·rw [if_pos c1,if_neg (by omega),if_pos c1,Q5,ih]
    simp only [lbY]
    have:((1:Int):Rat)=1:=rfl
    rw [this];grind
   ·rw [if_neg c1]
    by_cases c2:y.src=(p:Int)
    ·rw [if_pos c2,if_pos c2,Q5,ih]
     simp only [lbY]
     have:((-1:Int):Rat)=-1:=rfl
     rw [this];grind
    ·rw [if_neg c2,if_neg c2,if_neg c1];exact ih
theorem a2Z {w:H6} {z:List Rat}:U5 w z=true↔(m6 w.terms z<w.value->w.kind=1)∧(w.value<m6 w.terms z->w.kind=0):=by
 unfold U5
 simp only [Bool.not_eq_true',Bool.or_eq_false_iff,lbP,lbL,Classical.not_not]
 constructor
 ·rintro ⟨h1,h2⟩
  exact ⟨fun h=>h1.resolve_left (fun h'=>h' h),fun h=>h2.resolve_left (fun h'=>h' h)⟩
 ·rintro ⟨h1,h2⟩
  refine ⟨?_,?_⟩
  ·by_cases h:m6 w.terms z<w.value
   ·exact .inr (h1 h)
   ·exact .inl h
  ·by_cases h:w.value<m6 w.terms z
   ·exact .inr (h2 h)
   ·exact .inl h
theorem aB7 (i:Nat) (kind:Int) (v:Rat) (z:List Rat):m6 (A0 i kind v).terms z=z.getD i 0:=by
 show ((0:Int):Rat)+((1:Int):Rat)*z.getD ((i:Int)).toNat 0=_
 rw [lbY]
 have h0:((0:Int):Rat)=0:=rfl
 have h1:((1:Int):Rat)=1:=rfl
 rw [h0,h1];grind
theorem b3h {i:Nat} {v:Rat} {z:List Rat}:U5 (A0 i 1 v) z=true↔z.getD i 0<=v:=by
 rw [a2Z,aB7]
 show (_->(1:Int)=1)∧(v<z.getD i 0->(1:Int)=0)↔_
 constructor
 ·rintro ⟨_,h⟩;exact lb3.1 fun h'=>absurd (h h') (by decide)
 ·intro h;exact ⟨fun _=>rfl,fun h'=>absurd h' (lb3.2 h)⟩
theorem aq7 {i:Nat} {v:Rat} {z:List Rat}:U5 (A0 i 0 v) z=true↔v<=z.getD i 0:=by
 rw [a2Z,aB7]
 show (z.getD i 0<v->(0:Int)=1)∧(_->(0:Int)=0)↔_
 constructor
 ·rintro ⟨h,_⟩;exact lb3.1 fun h'=>absurd (h h') (by decide)
 ·intro h;exact ⟨fun h'=>absurd h' (lb3.2 h),fun _=>rfl⟩
theorem a2B {i:Nat} {v:Rat} {z:List Rat}:U5 (A0 i 2 v) z=true↔z.getD i 0=v:=by
 rw [a2Z,aB7]
 show (z.getD i 0<v->(2:Int)=1)∧(v<z.getD i 0->(2:Int)=0)↔_
 constructor
 ·rintro ⟨h,h2⟩
  have q1:¬z.getD i 0<v:=fun h'=>absurd (h h') (by decide)
  have q2:¬v<z.getD i 0:=fun h'=>absurd (h2 h') (by decide)
  grind
 ·intro h;exact ⟨fun h'=>by grind,fun h'=>by grind⟩
theorem stock_holds {e:Ev} (h0:J8 e=0) {i:Nat} {x:v7} (hx:e.moves[i]? =some x) {z:List Rat}:U5 (D7 e i x) z=true↔z.getD i 0<=F8 e z i x.src.toNat∧(x.all=true->z.getD i 0=F8 e z i x.src.toNat):=by
 have hm:=K8 h0 (lbm hx)
 have ms:=R6 hm
 have hv:m6 (D7 e i x).terms z=F8 e z i x.src.toNat - z.getD i 0:=by
  unfold D7
  simp only
  rw [Q5,show t7 e x.src i=t7 e ((x.src.toNat:Nat):Int) i by rw [show ((x.src.toNat:Nat):Int)=x.src by omega],a9P h0]
  simp only [lbY]
  have:((-1:Int):Rat)=-1:=rfl
  rw [this];grind
 have hz:(D7 e i x).value=0:=rfl
 have hk:(D7 e i x).kind=if x.all then 2 else 0:=rfl
 rw [a2Z,hv,hz,hk]
 cases hal:x.all with
 |true=>
  simp only [if_true]
  constructor
  ·rintro ⟨h,h2⟩
   have q1:¬F8 e z i x.src.toNat - z.getD i 0<0:=fun h'=>absurd (h h') (by decide)
   have q2:¬0<F8 e z i x.src.toNat - z.getD i 0:=fun h'=>absurd (h2 h') (by decide)
   exact ⟨by grind,fun _=>by grind⟩
  ·rintro ⟨h,h2⟩
   have h2:=h2 trivial
   exact ⟨fun h'=>by grind,fun h'=>by grind⟩
 |false=>
  simp only [Bool.false_eq_true,if_false]
  constructor
  ·rintro ⟨h,h2⟩
   have q1:¬F8 e z i x.src.toNat - z.getD i 0<0:=fun h'=>absurd (h h') (by decide)
   exact ⟨by grind,fun h=>(by cases h)⟩
  ·rintro ⟨h,_⟩
   exact ⟨fun h'=>by grind,fun _=>trivial⟩
theorem move_holds {t:g7} {kind:Int} (h0:J8 t.ev=0) {i:Nat} {x:v7} (hx:t.ev.moves[i]? =some x) {z:List Rat} (hz:0<=z.getD i 0):
 (M6 t kind i x).all (fun w=>U5 w z)=true↔b63 t.ev x (z.getD i 0) (F8 t.ev z i x.src.toNat)∧aD6 t kind i x (z.getD i 0):=by
 have hmo:=K8 h0 (lbm hx)
 unfold M6
 simp only [List.all_append,lbN,List.all_map]
 have e1:(if z7 t.ev x.src=0 then ([]:List H6) else [D7 t.ev i x]).all (fun w=>U5 w z)=true↔(z7 t.ev x.src≠0->z.getD i 0<=F8 t.ev z i x.src.toNat∧(x.all=true->z.getD i 0=F8 t.ev z i x.src.toNat)):=by
  by_cases hb:z7 t.ev x.src=0
  ·rw [if_pos hb];exact ⟨fun _ h=>absurd hb h,fun _=>rfl⟩
  ·rw [if_neg hb]
   simp only [List.all_cons,List.all_nil,Bool.and_true]
   rw [stock_holds h0 hx]
   exact ⟨fun h _=>h,fun h=>h hb⟩
 have e2:(O7 (N3 t.ev x) i).all (fun w=>U5 w z)=true↔ak4 (N3 t.ev x) (z.getD i 0)=true:=by
  cases hiv:N3 t.ev x with
  |none=>exact ⟨fun _=>rfl,fun _=>rfl⟩
  |some p=>
   obtain ⟨lo,hi⟩:=p
   simp only [O7,ak4,List.all_cons,List.all_nil,Bool.and_true,lbJ]
   exact b3h
 have e3:(j8 t.finds kind i).all ((fun w=>U5 w z) ∘ fun g:Int=>A0 i 0 (g:Rat))=true↔∀g ∈ j8 t.finds kind i,(g:Rat)<=z.getD i 0:=by
  rw [lbw]
  exact ⟨fun h g hg=>aq7.1 (h g hg),fun h g hg=>aq7.2 (h g hg)⟩
 have e4:(List.replicate (n9 t.cleans kind i) (A0 i 2 ((0:Int):Rat))).all (fun w=>U5 w z)=true↔(0<n9 t.cleans kind i->z.getD i 0=0):=by
  rw [lbw]
  constructor
  ·intro h hc;exact a2B.1 (h _ (List.mem_replicate.2 ⟨by omega,rfl⟩))
  ·intro h w hw
   obtain ⟨h1,rfl⟩:=List.mem_replicate.1 hw
   exact a2B.2 (h (by omega))
 rw [e1,e2,e3,e4]
 constructor
 ·rintro ⟨⟨⟨q1,q2⟩,q3⟩,q4⟩
  exact ⟨⟨hz,fun h=>(q1 h).1,fun h=>(q1 (aV2 hmo h)).2 h⟩,⟨q2,q3,q4⟩⟩
 ·rintro ⟨p1,p2⟩
  exact ⟨⟨⟨fun h=>⟨p1.most h,p1.all⟩,p2.cap⟩,p2.fin⟩,p2.cln⟩
theorem S6 {t:g7} {kind:Int} {q:H6->Bool}:∀n,n<=t.ev.moves.length->((z6 t kind n).all q=true↔∀i x,i<n->t.ev.moves[i]? =some x->(M6 t kind i x).all q=true)
 |0,_=>⟨fun _ i x h=>by omega,fun _=>rfl⟩
 |n+1,h=>by
  obtain ⟨y,hy⟩:∃y,t.ev.moves[n]? =some y:=⟨_,lbf (by omega)⟩
  unfold z6
  rw [hy]
  simp only [List.all_append,lbN]
  rw [S6 n (by omega)]
  constructor
  ·rintro ⟨h1,h2⟩ i x hi hx
   rcases Nat.lt_or_ge i n with h3|h3
   ·exact h1 i x h3 hx
   ·obtain rfl:i=n:=by omega
    rw [hy] at hx;injection hx with hx;subst hx;exact h2
  ·intro h1
   exact ⟨fun i x hi hx=>h1 i x (by omega) hx,h1 n y (by omega) hy⟩
theorem a3t {last n i:Int} {c:Rat} (h1:last<i) (h2:i<n) (h3:c≠0):k6 last n [(i,c)]=true:=by
 unfold k6
 simp [h1,h2,h3,k6]
theorem a4z {n:Int} {c:Rat} {i:Int} (h2:i<n) (h3:c≠0):∀{l:List (Int × Rat)} {last:Int},k6 last n l=true->last<i->(∀ t ∈ l,t.1<i)->k6 last n (l++[(i,c)])=true
 |[],last,_,h,_=>a3t h h2 h3
 |t::r,last,h,h1,ht=>by
  unfold k6 at h
  simp only [lbN,lbJ] at h
  show k6 last n (t::(r++[(i,c)]))=true
  unfold k6
  simp only [lbN,lbJ]
  exact ⟨h.1,a4z h2 h3 h.2 (ht t (by simp)) fun u hu=>ht u (by simp [hu])⟩
theorem a3K:((1:Int):Rat)≠0:=by decide
theorem a8D:((-1:Int):Rat)≠0:=by decide
theorem a5E {e:Ev} {p:Int} {n:Int}:∀k:Nat,(k:Int)<=n->k6 (-1) n (t7 e p k)=true∧∀t ∈ t7 e p k,t.1<(k:Int)
 |0,_=>⟨rfl,fun t ht=>by cases ht⟩
 |k+1,h=>by
  obtain ⟨h1,h2⟩:=a5E (e:=e) (p:=p) (n:=n) k (by omega)
  have h3:∀c:Rat,c≠0->k6 (-1) n (t7 e p k++[((k:Int),c)])=true∧∀t ∈ t7 e p k++[((k:Int),c)],t.1<((k+1:Nat):Int):=fun c hc=>
   ⟨a4z (by omega) hc h1 (by omega) h2,fun t ht=>by
     rcases lbA.1 ht with ht|ht
     ·have:=h2 t ht;omega
     ·simp at ht;subst ht;simp;omega⟩
  unfold t7
  cases hx:e.moves[k]? with
  |none=>exact ⟨h1,fun t ht=>by have:=h2 t ht;omega⟩
  |some y=>
   simp only
   split
   ·exact h3 _ a3K
   ·split
    ·exact h3 _ a8D
    ·exact ⟨h1,fun t ht=>by have:=h2 t ht;omega⟩
theorem aS2 {t:g7} {kind:Int} {i:Nat} {x:v7} {n:Int} (hi:(i:Int)<n):(M6 t kind i x).all (B5 n)=true:=by
 have ho:∀(k:Int) (v:Rat),0<=k->k<3->B5 n (A0 i k v)=true:=fun k v h1 h2=>by
  unfold B5 A0
  simp only [lbN,lbJ]
  exact ⟨⟨a3t (by omega) hi a3K,h1⟩,h2⟩
 unfold M6
 simp only [List.all_append,lbN,lbw]
 refine ⟨⟨⟨fun w hw=>?_,fun w hw=>?_⟩,fun w hw=>?_⟩,fun w hw=>?_⟩
 ·by_cases hb:z7 t.ev x.src=0
  ·rw [if_pos hb] at hw;cases hw
  ·rw [if_neg hb] at hw
   simp at hw
   subst hw
   obtain ⟨h1,h2⟩:=a5E (e:=t.ev) (p:=x.src) (n:=n) i (by omega)
   unfold B5 D7
   simp only [lbN,lbJ]
   refine ⟨⟨a4z hi a8D h1 (by omega) h2,?_⟩,?_⟩<;>split<;>decide
 ·cases hiv:N3 t.ev x with
  |none=>rw [hiv] at hw;cases hw
  |some p=>
   obtain ⟨lo,hi⟩:=p
   rw [hiv] at hw
   simp [O7] at hw
   subst hw
   exact ho 1 hi (by decide) (by decide)
 ·obtain ⟨g,_,rfl⟩:=lby.1 hw
  exact ho 0 _ (by decide) (by decide)
 ·obtain ⟨_,rfl⟩:=List.mem_replicate.1 hw
  exact ho 2 _ (by decide) (by decide)
theorem aC6 {t:g7} {kind:Int} {i:Nat} {x:v7}:(M6 t kind i x).length<=2+t.finds.length+t.cleans.length:=by
 unfold M6
 have h1:(O7 (N3 t.ev x) i).length<=1:=by unfold O7;split<;>simp
 have h2:(j8 t.finds kind i).length<=t.finds.length:=by unfold j8;rw [lbr];exact lbt _ _
 have h3:n9 t.cleans kind i<=t.cleans.length:=lbt _ _
 have h4:(if z7 t.ev x.src=0 then ([]:List H6) else [D7 t.ev i x]).length<=1:=by split<;>simp
 simp only [lbq,lbr,List.length_replicate]
 omega
theorem S7 {t:g7} {kind:Int}:∀n,(z6 t kind n).length<=n*(2+t.finds.length+t.cleans.length)
 |0=>by simp [z6]
 |n+1=>by
  have ih:=S7 (t:=t) (kind:=kind) n
  unfold z6
  rw [lbV]
  cases hx:t.ev.moves[n]? with
  |none=>simp only;omega
  |some x=>
   have:=aC6 (t:=t) (kind:=kind) (i:=n) (x:=x)
   simp only [lbq]
   omega
theorem a1k {t:g7} {kind:Int} (hm:t.ev.moves.length<=14) (hf:t.finds.length<=20) (hc:t.cleans.length<=50):m8 (m7 t kind)=true:=by
 unfold m8 m7
 have h1:=S7 (t:=t) (kind:=kind) t.ev.moves.length
 have h2:t.ev.moves.length*(2+t.finds.length+t.cleans.length)<=14*72:=lbT hm (by omega)
 simp only [lbN,lbJ]
 refine ⟨⟨⟨by omega,by omega⟩,by omega⟩,?_⟩
 rw [S6 _ (lbR _)]
 intro i x hi hx
 exact aS2 (by omega)
theorem sys_holds {t:g7} {kind:Int} {z:List Rat} (ht:s6 t=0) (k0:0<=kind) (k1:kind<8) (hm:t.ev.moves.length<=14):i7 (m7 t kind) z=true↔a3U t kind z:=by
 obtain ⟨q1,q2,q3,q4,q5⟩:=B4 ht
 unfold i7
 rw [a1k hm q2 q3]
 simp only [Bool.true_and,lbN,lbJ]
 constructor
 ·rintro ⟨⟨h1,h2⟩,h3⟩
  have hl:z.length=t.ev.moves.length:=by have:(z.length:Int)=t.ev.moves.length:=h1;omega
  refine ⟨ht,k0,k1,hl,fun i x hx=>?_⟩
  have hi:i<t.ev.moves.length:=(lbe.1 hx).1
  have hz:0<=z.getD i 0:=lbM (lbw.1 h2 _ (lbm (getD_some (by omega))))
  exact (move_holds q1 hx hz).1 ((S6 _ (lbR _)).1 h3 i x hi hx)
 ·intro h
  refine ⟨⟨?_,?_⟩,?_⟩
  ·show (z.length:Int)=t.ev.moves.length
   rw [h.len]
  ·rw [lbw]
   intro v hv
   obtain ⟨i,hi,rfl⟩:=List.getElem_of_mem hv
   obtain ⟨x,hx⟩:∃x,t.ev.moves[i]? =some x:=⟨_,lbf (by rw [← h.len];exact hi)⟩
   have:=(h.step i x hx).1.pos
   rw [lbl,lbf hi] at this
   exact lbI this
  ·show (z6 t kind t.ev.moves.length).all _=true
   rw [S6 _ (lbR _)]
   intro i x hi hx
   obtain ⟨a,b⟩:=h.step i x hx
   exact (move_holds q1 hx a.pos).2 ⟨a,b⟩
def L1.row (f:L1):List T:=[ti f.mv,ti f.kind,ti f.grams]
def F2.row (c:F2):List T:=[ti c.mv,ti c.kind]
abbrev ad5 (l:List L1):T:=.sl 3 .any (l.map L1.row)
abbrev a7d (l:List F2):T:=.sl 2 .any (l.map F2.row)
def trT (t:g7):List T:=[ti t.ev.mats,ti t.ev.hhs,ti t.ev.scs,a5m t.ev.places,a3q t.ev.moves,a2m t.ev.certs,T3 t.ev.recalls,a1s t.ev.purities,ad5 t.finds,a7d t.cleans]
def trC (t:g7):List C:=[.t (ti t.ev.mats),.t (ti t.ev.hhs),.t (ti t.ev.scs),.t (a5m t.ev.places),.t (a3q t.ev.moves),.t (a2m t.ev.certs),.t (T3 t.ev.recalls),.t (a1s t.ev.purities),.t (ad5 t.finds),.t (a7d t.cleans)]
abbrev trS (t:g7):S:=.agg (trC t)
structure g7.Sized (t:g7):Prop where
 ev:t.ev.Sized
 f:t.finds.length<=1000000
 c:t.cleans.length<=1000000
theorem af3 {x:Rat}:sgR x=0↔x=0:=by unfold sgR;split<;>(try split)<;>simp_all<;>grind
theorem b3H (e:Ev) (mv kind:Int):e7 Tryz.prog 124 [evS e,b7 .i64 mv,b7 .i64 kind] [] (b7 .i64 (a2f e mv kind)) []:=by
 have l2:(e.moves.map v7.row).length=e.moves.length:=by simp
 (refine ac Tryz.func124 ?_;(conv=>whnf);repeat ((first|refine b0x ?_|refine zy ?_);conv=>whnf))
 repeat' (first|refine zx ?_|refine zd ?_ ?_<;>intro h<;>try omega|fail)<;>conv=>whnf
 all_goals (refine s9 ?_;unfold a2f;(repeat' split)<;>first|rfl|omega)
theorem a6G (t:g7) (hs:t.Sized):e7 Tryz.prog 58 [trS t] [] (b7 .i64 (s6 t)) []:=by
 have l1:=hs.f
 have l2:=hs.c
 have ck:=b1p t.ev hs.ev
 have m1:(t.finds.map L1.row).length=t.finds.length:=by simp
 have m2:(t.cleans.map F2.row).length=t.cleans.length:=by simp
 by_cases h0:J8 t.ev≠0
 ·have e1:s6 t=J8 t.ev:=by unfold s6;rw [if_pos h0]
  rw [e1]
  (refine ac Tryz.func58 ?_;(conv=>whnf);repeat ((first|refine b0x ?_|refine zy ?_);conv=>whnf))
  repeat' (first|refine zx ?_|refine qp ck ?_|refine zd ?_ ?_<;>intro h<;>try omega|fail)<;>conv=>whnf
  all_goals first
   |omega
   |exact s9 rfl
 have h0:J8 t.ev=0:=by omega
 rw [h0] at ck
 by_cases h1:20<t.finds.length∨50<t.cleans.length
 ·have e1:s6 t=6:=by unfold s6;rw [if_neg (by omega),if_pos h1]
  rw [e1]
  (refine ac Tryz.func58 ?_;(conv=>whnf);repeat ((first|refine b0x ?_|refine zy ?_);conv=>whnf))
  repeat' (first|refine zx ?_|refine qp ck ?_|refine zd ?_ ?_<;>intro h<;>try omega|fail)<;>conv=>whnf
  all_goals first
   |omega
   |exact s9 rfl
 have e1:s6 t=if N9 t.ev t.finds≠0 then N9 t.ev t.finds else P6 t.ev t.cleans:=by unfold s6;rw [if_neg (by omega),if_neg h1]
 rw [e1]
 (refine ac Tryz.func58 ?_;(conv=>whnf);repeat ((first|refine b0x ?_|refine zy ?_);conv=>whnf))
 repeat' (first|refine zx ?_|refine qp ck ?_|refine zd ?_ ?_<;>intro h<;>try omega|fail)<;>conv=>whnf
 all_goals try omega
 refine j5 e8 (fun k=>([J,S.c (C.t (T.ptr (trT t)))]++Jn 25++[S.c (C.t (ad5 t.finds)),b7 .i64 t.finds.length,b7 .i64 k]++Jn 40,[])) t.finds.length (fun k=>N9 t.ev t.finds=N9 t.ev (t.finds.drop k)) [] rfl
  ⟨rfl,rfl,trivial,⟨rfl,rfl,g9 (by simp),rfl,trivial⟩⟩ ?_
 intro k hk hI
 by_cases hlt:k<t.finds.length
 ·obtain ⟨f,hf⟩:∃f,t.finds[k]? =some f:=⟨_,lbf hlt⟩
  have mk:=b3H t.ev f.mv f.kind
  rw [a40 hf,N9] at hI
  by_cases hm:a2f t.ev f.mv f.kind≠0
  ·rw [if_pos hm] at hI
   rw [hI,if_pos hm]
   conv=>whnf
   repeat' (first|refine zx ?_|refine qp mk ?_|refine g6 hf ?_|refine zd ?_ ?_<;>intro h<;>try omega|fail)<;>conv=>whnf
   all_goals first
    |omega
    |exact s9 rfl
  ·rw [if_neg hm] at hI
   by_cases hg:f.grams<1∨1099511627776<f.grams
   ·rw [if_pos hg] at hI
    rw [hI]
    conv=>whnf
    repeat' (first|refine zx ?_|refine qp mk ?_|refine g6 hf ?_|refine zd ?_ ?_<;>intro h<;>try omega|fail)<;>conv=>whnf
    all_goals first
     |omega
     |exact s9 rfl
   ·rw [if_neg hg] at hI
    conv=>whnf
    repeat' (first|refine zx ?_|refine qp mk ?_|refine g6 hf ?_|refine zd ?_ ?_<;>intro h<;>try omega|fail)<;>conv=>whnf
    all_goals first
     |omega
     |exact ⟨hlt,hI,[],rfl,rfl,trivial,⟨rfl,rfl,rfl,rfl,trivial⟩⟩
 ·rw [lbo (by omega)] at hI
  have hI:N9 t.ev t.finds=0:=hI
  rw [hI,if_neg (by omega)]
  conv=>whnf
  repeat' (first|refine zx ?_|refine zd ?_ ?_<;>intro h<;>try omega|fail)<;>conv=>whnf
  all_goals try omega
  refine j5 e8 (fun k=>([J,S.c (C.t (T.ptr (trT t)))]++Jn 51++[S.c (C.t (a7d t.cleans)),b7 .i64 t.cleans.length,b7 .i64 k]++Jn 14,[])) t.cleans.length (fun k=>P6 t.ev t.cleans=P6 t.ev (t.cleans.drop k)) [] rfl
   ⟨rfl,rfl,trivial,⟨rfl,rfl,g9 (by simp),rfl,trivial⟩⟩ ?_
  intro j hj hJ
  by_cases hjt:j<t.cleans.length
  ·obtain ⟨c,hc⟩:∃c,t.cleans[j]? =some c:=⟨_,lbf hjt⟩
   have mk:=b3H t.ev c.mv c.kind
   rw [a40 hc,P6] at hJ
   by_cases hm:a2f t.ev c.mv c.kind≠0
   ·rw [if_pos hm] at hJ
    rw [hJ]
    conv=>whnf
    repeat' (first|refine zx ?_|refine qp mk ?_|refine g6 hc ?_|refine zd ?_ ?_<;>intro h<;>try omega|fail)<;>conv=>whnf
    all_goals first
     |omega
     |exact s9 rfl
   ·rw [if_neg hm] at hJ
    conv=>whnf
    repeat' (first|refine zx ?_|refine qp mk ?_|refine g6 hc ?_|refine zd ?_ ?_<;>intro h<;>try omega|fail)<;>conv=>whnf
    all_goals first
     |omega
     |exact ⟨hjt,hJ,[],rfl,rfl,trivial,⟨rfl,rfl,rfl,rfl,trivial⟩⟩
  ·rw [lbo (by omega)] at hJ
   have hJ:P6 t.ev t.cleans=0:=hJ
   rw [hJ]
   conv=>whnf
   repeat' (first|refine zx ?_|refine zd ?_ ?_<;>intro h<;>try omega|fail)<;>conv=>whnf
   all_goals first
    |omega
    |exact s9 rfl
theorem b7P (e:Ev) {i:Nat} {x:v7} (h0:J8 e=0) (hx:e.moves[i]? =some x):e7 Tryz.prog 116 [evS e,b7 .i64 i] [] (i8 (decide (z7 e x.src=0))) []:=by
 have hm:=K8 h0 (lbm hx)
 have ms:=R6 hm
 obtain ⟨s,hsn⟩:∃s:Nat,x.src=s:=⟨x.src.toNat,by omega⟩
 obtain ⟨pl,hpl⟩:∃pl,e.places[s]? =some pl:=⟨_,lbf (by omega)⟩
 have hkd:z7 e x.src=pl.kind:=by rw [hsn];exact au0 hpl
 rw [hkd]
 (refine ac Tryz.func116 ?_;(conv=>whnf);repeat ((first|refine b0x ?_|refine zy ?_);conv=>whnf))
 repeat' (first|refine zx ?_|refine g6 hx ?_|refine ax7 hsn hpl ?_|refine zd ?_ ?_<;>intro h<;>try omega|fail)<;>conv=>whnf
 all_goals (refine i3 ?_;simp [*])
def I4 (x:Int × Rat):List T:=ti x.1::q9 (fz x.2)
abbrev aA2 (l:List (Int × Rat)):T:=.sl 5 .any (l.map I4)
def E1 (w:H6):List T:=aA2 w.terms::ti w.kind::q9 (fz w.value)
def bc1 (w:H6):List C:=.t (aA2 w.terms)::.t (ti w.kind)::frC (fz w.value)
abbrev b8z (w:H6):S:=.agg (bc1 w)
abbrev a06 (l:List H6):T:=.sl 6 .any (l.map E1)
abbrev a1b (s:k7):S:=.agg [.t (ti s.n),.t (a06 s.rows)]
def a5Z (w:Nat) (g:Nat->Rat):List Fr:=(List.range w).map fun m=>fz (g m)
theorem ah4 (w:Nat) (g:Nat->Rat):(a5Z w g).length=w:=by simp [a5Z]
theorem a7t {w:Nat} {g:Nat->Rat} {m:Nat} (h:m<w):(a5Z w g)[m]? =some (fz (g m)):=by simp [a5Z,h]
theorem aK1 {w:Nat} {g:Nat->Rat} {m:Nat} {v:Rat} (h:m<w):(a5Z w g).set m (fz v)=a5Z w (fun j=>if j=m then v else g j):=by
 apply List.ext_getElem?
 intro j
 by_cases hj:j<w
 ·rw [a7t hj,lbg,ah4]
  by_cases hjm:m=j
  ·subst hjm;simp [h]
  ·rw [if_neg hjm,a7t hj,if_neg (by omega)]
 ·rw [lbd (by simp [ah4];omega),lbd (by simp [ah4];omega)]
abbrev b6u (l:List Fr):Blk:={ mode:=.live,elem:=86,size:=4,rows:=toC (l.map q9),box:=false }
theorem b3Q {row:List Fr} {i n:Nat} {y:Fr} (h:n=i):C9 (b6u row) ((toC (row.map q9)).set n (frC y))=b6u (row.set i y):=by
 subst h
 unfold C9
 simp [toC,List.map_set,q9]
abbrev zR:Rat:=((0:Int):Rat)
def a21 (m w:Nat):List Fr:=(List.range w).map fun j=>if j<m then fz zR else a2e
theorem a50 (m w:Nat):(a21 m w).length=w:=by simp [a21]
theorem a4U {m w j:Nat} (h:j<w):(a21 m w)[j]? =some (if j<m then fz zR else a2e):=by simp [a21,h]
theorem b22 {m w:Nat} (h:m<w):(a21 m w).set m (fz zR)=a21 (m+1) w:=by
 apply List.ext_getElem?
 intro j
 by_cases hj:j<w
 ·rw [a4U hj,lbg,a50]
  by_cases hjk:m=j
  ·subst hjk;simp [h]
  ·rw [if_neg hjk,a4U hj]
   have:(j<m+1)↔(j<m):=by omega
   simp only [this]
 ·rw [lbd (by simp [a50];omega),lbd (by simp [a50];omega)]
theorem b1O (w:Nat):a21 w w=a5Z w (fun _=>zR):=by
 unfold a21 a5Z
 refine lbp fun j hj=>?_
 rw [if_pos (lbC.1 hj)]
theorem b0k (w:Nat):a21 0 w=List.replicate w a2e:=by
 apply List.ext_getElem?
 intro j
 by_cases hj:j<w
 ·rw [a4U hj];simp [hj]
 ·rw [lbd (by simp [a50];omega),lbd (by simp;omega)]
theorem a17 {e:Ev} (h:J8 e=0):1<=e.mats∧e.mats<=6∧e.places.length<=100∧e.moves.length<=200:=by
 obtain ⟨h1,h2,_⟩:=a0u h
 unfold ai5 at h1
 simp only [Bool.or_eq_false_iff,lbL] at h1
 omega
abbrev z9 (l:List (Int × Rat)):S:=.c (.t (aA2 l))
def ah6 (l:List (Int × Rat)):Nat->Int
 |0=>-1
 |k+1=>((l[k]?).map (·.1)).getD 0
theorem a9C {l:List (Int × Rat)} {k:Nat} {t:Int × Rat} (h:l[k]? =some t):ah6 l (k+1)=t.1:=by simp [ah6,h]
theorem T9 (l:List (Int × Rat)) (n:Int) (hl:l.length<=1000000) (hB:∀t ∈ l,rl t.2<=200):e7 Tryz.prog 153 [z9 l,b7 .i64 n] [] (i8 (decide (0<=n) && k6 (-1) n l)) []:=by
 have m1:(l.map I4).length=l.length:=by simp
 by_cases h0:n<0
 ·rw [lbK (by omega),Bool.false_and]
  (refine ac Tryz.func153 ?_;(conv=>whnf);repeat ((first|refine b0x ?_|refine zy ?_);conv=>whnf))
  repeat' (first|refine zx ?_|refine zd ?_ ?_<;>intro h<;>try omega|fail)<;>conv=>whnf
  all_goals first
   |omega
   |exact i3 rfl
 rw [lbI (by omega),Bool.true_and]
 (refine ac Tryz.func153 ?_;(conv=>whnf);repeat ((first|refine b0x ?_|refine zy ?_);conv=>whnf))
 repeat' (first|refine zx ?_|refine zd ?_ ?_<;>intro h<;>try omega|fail)<;>conv=>whnf
 all_goals try omega
 refine j5 e8 (fun k=>([J,b7 .i64 n,J,J,J,b7 .i64 (ah6 l k),J,J,J,J,z9 l,b7 .i64 l.length,b7 .i64 k]++Jn 22,[])) l.length (fun k=>k6 (-1) n l=k6 (ah6 l k) n (l.drop k)) [] rfl
  ⟨rfl,rfl,trivial,⟨rfl,rfl,rfl,g9 (by simp),rfl,trivial⟩⟩ ?_
 intro k hk hI
 by_cases hlt:k<l.length
 ·obtain ⟨t,ht⟩:∃t,l[k]? =some t:=⟨_,lbf hlt⟩
  obtain ⟨v,c⟩:=t
  have bc:=hB _ (lbm ht)
  simp only at bc
  have sg:=X7 c (by omega)
  have sz:=af3 (x:=c)
  rw [a40 ht,k6] at hI
  simp only at hI
  by_cases hok:ah6 l k<v∧v<n∧c≠0
  ·rw [lbI hok.1,lbI hok.2.1,lbI hok.2.2] at hI
   simp only [Bool.true_and] at hI
   have hne:sgR c≠0:=fun h=>hok.2.2 (sz.1 h)
   obtain ⟨q1,q2,_⟩:=hok
   conv=>whnf
   repeat' (first|refine zx ?_|refine qp sg ?_|refine g6 ht ?_|refine zd ?_ ?_<;>intro h<;>try omega|fail)<;>conv=>whnf
   all_goals first
    |omega
    |exact ⟨hlt,by rw [a9C ht];exact hI,[],rfl,rfl,trivial,⟨rfl,g9 (by rw [a9C ht]),rfl,rfl,rfl,trivial⟩⟩
  ·have hF:k6 (-1) n l=false:=by
    rw [hI]
    rw [← lbQ]
    simp only [lbN,lbJ]
    exact fun h=>hok ⟨h.1.1.1,h.1.1.2,h.1.2⟩
   rw [hF]
   have hor:v<=ah6 l k∨n<=v∨sgR c=0:=by
    by_cases q1:ah6 l k<v
    ·by_cases q2:v<n
     ·refine .inr (.inr (sz.2 ?_))
      by_cases q3:c=0
      ·exact q3
      ·exact absurd ⟨q1,q2,q3⟩ hok
     ·exact .inr (.inl (by omega))
    ·exact .inl (by omega)
   clear hI hok
   conv=>whnf
   repeat' (first|refine zx ?_|refine qp sg ?_|refine g6 ht ?_|refine zd ?_ ?_<;>intro h<;>try omega|fail)<;>conv=>whnf
   all_goals first
    |omega
    |exact i3 rfl
 ·rw [lbo (by omega)] at hI
  have hI:k6 (-1) n l=true:=hI
  rw [hI]
  conv=>whnf
  repeat' (first|refine zx ?_|refine zd ?_ ?_<;>intro h<;>try omega|fail)<;>conv=>whnf
  all_goals first
   |omega
   |exact i3 rfl
structure b3n (s:k7):Prop where
 n0:s.rows.length<=1000000
 t:∀w ∈ s.rows,w.terms.length<=100∧(∀ t ∈ w.terms,rl t.2<=200)∧rl w.value<=200
theorem a6K (s:k7) (hb:b3n s):e7 Tryz.prog 206 [a1b s] [] (i8 (m8 s)) []:=by
 have m1:(s.rows.map E1).length=s.rows.length:=by simp
 have l1:=hb.n0
 by_cases h0:¬(0<=s.n∧s.n<=1500∧s.rows.length<=6000)
 ·have e1:m8 s=false:=by
   unfold m8
   rw [← lbQ]
   simp only [lbN,lbJ]
   exact fun h=>h0 ⟨h.1.1.1,h.1.1.2,h.1.2⟩
  rw [e1]
  (refine ac Tryz.func206 ?_;(conv=>whnf);repeat ((first|refine b0x ?_|refine zy ?_);conv=>whnf))
  repeat' (first|refine zx ?_|refine zd ?_ ?_<;>intro h<;>try omega|fail)<;>conv=>whnf
  all_goals first
   |omega
   |exact i3 rfl
 obtain ⟨c1,c2,c3⟩:=Decidable.not_not.1 h0
 have e1:m8 s=s.rows.all (B5 s.n):=by
  unfold m8
  rw [lbI c1,lbI c2,lbI c3];rfl
 rw [e1]
 clear h0
 (refine ac Tryz.func206 ?_;(conv=>whnf);repeat ((first|refine b0x ?_|refine zy ?_);conv=>whnf))
 repeat' (first|refine zx ?_|refine zd ?_ ?_<;>intro h<;>try omega|fail)<;>conv=>whnf
 all_goals try omega
 refine j5 e8 (fun k=>([J,S.c (C.t (T.ptr [ti s.n,a06 s.rows]))]++Jn 18++[S.c (C.t (a06 s.rows)),b7 .i64 s.rows.length,b7 .i64 k]++Jn 26,[])) s.rows.length (fun k=>(s.rows.take k).all (B5 s.n)=true) [] rfl
  ⟨rfl,rfl,trivial,⟨rfl,rfl,g9 (by simp),rfl,trivial⟩⟩ ?_
 intro k hk hI
 by_cases hlt:k<s.rows.length
 ·obtain ⟨w,hw⟩:∃w,s.rows[k]? =some w:=⟨_,lbf hlt⟩
  obtain ⟨b1,b2,b3⟩:=hb.t w (lbm hw)
  have rt:=T9 w.terms s.n (by omega) b2
  rw [lbI c1,Bool.true_and] at rt
  have rv:=K9 w.value (by omega)
  cases hrt:k6 (-1) s.n w.terms with
  |false=>
   rw [hrt] at rt
   have hF:B5 s.n w=false:=by unfold B5;rw [hrt];rfl
   rw [K6 hw hF]
   conv=>whnf
   repeat' (first|refine zx ?_|refine qp rt ?_|refine qp rv ?_|refine g6 hw ?_|refine zd ?_ ?_<;>intro h<;>try omega|fail)<;>conv=>whnf
   all_goals first
    |omega
    |(exfalso;simp_all;done)
    |exact i3 rfl
  |true=>
   rw [hrt] at rt
   by_cases hk3:0<=w.kind∧w.kind<3
   ·have hT:B5 s.n w=true:=by unfold B5;rw [hrt,lbI hk3.1,lbI hk3.2];rfl
    conv=>whnf
    repeat' (first|refine zx ?_|refine qp rt ?_|refine qp rv ?_|refine g6 hw ?_|refine zd ?_ ?_<;>intro h<;>try omega|fail)<;>conv=>whnf
    all_goals first
     |omega
     |(exfalso;simp_all;done)
     |exact ⟨hlt,by rw [G3 hw,hI,hT];rfl,[],rfl,rfl,trivial,⟨rfl,rfl,rfl,rfl,trivial⟩⟩
   ·have hF:B5 s.n w=false:=by
     unfold B5
     rw [← lbQ]
     simp only [lbN,lbJ]
     exact fun h=>hk3 ⟨h.1.2,h.2⟩
    rw [K6 hw hF]
    conv=>whnf
    repeat' (first|refine zx ?_|refine qp rt ?_|refine qp rv ?_|refine g6 hw ?_|refine zd ?_ ?_<;>intro h<;>try omega|fail)<;>conv=>whnf
    all_goals first
     |omega
     |(exfalso;simp_all;done)
     |exact i3 rfl
 ·rw [lbn (by omega)] at hI
  rw [hI]
  conv=>whnf
  repeat' (first|refine zx ?_|refine zd ?_ ?_<;>intro h<;>try omega|fail)<;>conv=>whnf
  all_goals first
   |omega
   |exact i3 rfl
theorem b3c (rs:List Fr) (hl:rs.length<=1000000) (g:FuncId) (caps:List T) (q:Fr->Bool) (hg:∀r ∈ rs,e7 Tryz.prog g (frS r::caps.map fun x=>.c (.t x)) [] (i8 (q r)) []):
 e7 Tryz.prog 316 [.c (.t (Q8 rs)),.c (.t (.fn (.func g) caps))] [] (b7 .i64 (K3 q rs 0)) []:=by
 have l1:(rs.map q9).length=rs.length:=by simp
 (refine ac Tryz.func316 ?_;(conv=>whnf);repeat (refine zy ?_;conv=>whnf))
 repeat' (first|refine zx ?_|refine zd ?_ ?_<;>intro h<;>try omega|fail)<;>conv=>whnf
 refine j5 e8 (fun k=>([S.c (C.t (Q8 rs)),S.c (C.t (T.fn (.func g) caps)),J,J,J,J,J,b7 .i64 rs.length,b7 .i64 k]++Jn 10,[])) rs.length (fun k=>K3 q (rs.drop k) k=K3 q rs 0) [] rfl
  ⟨rfl,rfl,trivial,⟨k8 rfl,k8 rfl,g9 (by simp),rfl,trivial⟩⟩ ?_
 intro k hk hI
 by_cases hlt:k<rs.length
 ·obtain ⟨r,hr⟩:∃r,rs[k]? =some r:=⟨_,lbf hlt⟩
  have hd:rs.drop k=r::rs.drop (k+1):=by
   rw [List.drop_eq_getElem_cons hlt]
   rw [lbf hlt] at hr
   injection hr with hr
   rw [hr]
  have hgr:=hg r (lbm hr)
  have ha:(frS r::caps.map fun x=>S.c (C.t x)).all S.isT=true:=by simp [S.isT,C.isT,q9]
  rw [hd] at hI
  have hI:(if q r then (k:Int) else K3 q (rs.drop (k+1)) (k+1))=K3 q rs 0:=hI
  cases hq:q r with
  |true=>
   rw [hq] at hgr hI
   conv=>whnf
   repeat' (first|refine zx ?_|refine .inl ⟨_,_,F5 hgr ha rfl,?_⟩|refine g6 hr ?_|refine zd ?_ ?_<;>intro h<;>try omega|fail)<;>conv=>whnf
   all_goals first
    |omega
    |exact s9 hI
  |false=>
   rw [hq] at hgr hI
   conv=>whnf
   repeat' (first|refine zx ?_|refine .inl ⟨_,_,F5 hgr ha rfl,?_⟩|refine g6 hr ?_|refine zd ?_ ?_<;>intro h<;>try omega|fail)<;>conv=>whnf
   all_goals first
    |omega
    |exact ⟨hlt,by simpa using hI,[],rfl,rfl,trivial,⟨rfl,rfl,rfl,rfl,trivial⟩⟩
 ·have hke:k=rs.length:=by omega
  subst hke
  rw [lbo (lbR _)] at hI
  conv=>whnf
  repeat' (first|refine zx ?_|refine zd ?_ ?_<;>intro h<;>try omega|fail)<;>conv=>whnf
  all_goals first
   |omega
   |exact s9 hI
theorem aD5 (rs:List Fr) (hl:rs.length<=1000000) (g:FuncId) (caps:List T) (q:Fr->Bool) (hg:∀r ∈ rs,e7 Tryz.prog g (frS r::caps.map fun x=>.c (.t x)) [] (i8 (q r)) []):
 e7 Tryz.prog 268 [.c (.t (Q8 rs)),.c (.t (.fn (.func g) caps))] [] (i8 (rs.any q)) []:=by
 have ix:=b3c rs hl g caps q hg
 (refine ac Tryz.func268 ?_;(conv=>whnf);repeat (refine zy ?_;conv=>whnf))
 repeat' (first|refine zx ?_|refine qp ix ?_|refine zd ?_ ?_<;>intro h<;>try omega|fail)<;>conv=>whnf
 all_goals (refine i3 ?_;rw [← a1T q rs 0];simp;omega)
theorem b3z (f:Fr) (lp:f.p.dl.length<=200000) (lq:f.q.dl.length<=200000):e7 Tryz.prog 269 (frS f::[].map fun x=>.c (.t x)) [] (i8 (!N1 f)) []:=by
 have r:=ad8 f lp lq
 (refine ac Tryz.func269 ?_;(conv=>whnf);repeat ((first|refine b0x ?_|refine zy ?_);conv=>whnf))
 repeat' (first|refine zx ?_|refine qp r ?_|refine zd ?_ ?_<;>intro h<;>try omega|fail)<;>conv=>whnf
 all_goals (refine i3 ?_;simp [*])
theorem b1c (z:List Fr) (hl:z.length<=1000000) (hd:∀f ∈ z,f.p.dl.length<=200000∧f.q.dl.length<=200000):e7 Tryz.prog 207 [F3 z] [] (i8 (z.all N1)) []:=by
 have ct:=aD5 z hl 269 [] _ (fun f hf=>b3z f (hd f hf).1 (hd f hf).2)
 have e:(z.any fun f=>!N1 f)=!(z.all N1):=by rw [List.not_all_eq_any_not]
 rw [e] at ct
 cases hz:z.all N1<;>rw [hz] at ct<;>
 ·(refine ac Tryz.func207 ?_;(conv=>whnf);repeat ((first|refine b0x ?_|refine zy ?_);conv=>whnf))
  repeat' (first|refine zx ?_|refine qp ct ?_|refine zd ?_ ?_<;>intro h<;>try omega|fail)<;>conv=>whnf
  all_goals exact i3 rfl
theorem aq9 {n:Int}:∀{l:List (Int × Rat)} {last:Int},k6 last n l=true->∀t ∈ l,last<t.1∧t.1<n
 |[],_,_,t,ht=>by cases ht
 |u::r,last,h,t,ht=>by
  unfold k6 at h
  simp only [lbN,lbJ] at h
  rcases lbB.1 ht with rfl|ht
  ·exact ⟨h.1.1.1,h.1.1.2⟩
  ·have:=aq9 h.2 t ht
   omega
section
structure Fd where
 V:Nat->Rat
 A:Nat->Nat->Rat
 G:Nat->Rat
 O:Nat->Nat
 F:Nat->Nat
namespace Fd
def pRow (D:Fd) (r s j:Nat):Rat:=if j=s then 1 / D.A r s else D.A r j / D.A r s
def exch (D:Fd) (r s:Nat):Fd where
 V:=fun i=>if i=r then D.V r / D.A r s else D.V i - D.A i s*(D.V r / D.A r s)
 A:=fun i j=>if i=r then D.pRow r s j else if j=s then 0 - D.A i s*D.pRow r s s else D.A i j - D.A i s*D.pRow r s j
 G:=fun j=>if j=s then 0 - D.G s*D.pRow r s s else D.G j - D.G s*D.pRow r s j
 O:=fun i=>if i=r then D.F s else D.O i
 F:=fun j=>if j=s then D.O r else D.F j
end Fd
theorem E6 {f:Nat->Rat} {s:Nat}:∀{n:Nat},s<n->i9 f n=i9 (fun j=>if j=s then 0 else f j) n+f s
 |0,h=>by omega
 |n+1,h=>by
  simp only [i9]
  by_cases hs:s=n
  ·subst hs
   rw [if_pos rfl,j0 (n:=s) (f:=fun j=>if j=s then 0 else f j) (g:=f) fun m hm=>by rw [if_neg (by omega)]]
   grind
  ·rw [if_neg (show ¬n=s by omega),E6 (f:=f) (s:=s) (n:=n) (by omega)];grind
theorem G7 {f:Nat->Rat} (k:Rat):∀n:Nat,i9 (fun j=>k*f j) n=k*i9 f n
 |0=>by simp only [i9,X6];grind
 |n+1=>by simp only [i9];rw [G7 k n];grind
theorem a1a {f g:Nat->Rat}:∀n:Nat,i9 (fun j=>f j+g j) n=i9 f n+i9 g n
 |0=>by simp only [i9,X6];grind
 |n+1=>by simp only [i9];rw [a1a n];grind
theorem A7 {f:Nat->Rat}:∀{n:Nat},(∀ j,j<n->f j=0)->i9 f n=0
 |0,_=>by simp only [i9,X6]
 |n+1,h=>by simp only [i9];rw [A7 fun j hj=>h j (by omega),h n (by omega)];grind
theorem a96 {f:Nat->Rat}:∀{n:Nat},(∀ j,j<n->f j<=0)->i9 f n<=0
 |0,_=>by simp only [i9,X6];grind
 |n+1,h=>by
  simp only [i9]
  have h1:=a96 (f:=f) (n:=n) fun j hj=>h j (by omega)
  have h2:=h n (by omega)
  grind
theorem b7n {f:Nat->Rat} {n s:Nat} (h:∀j,j<n->f j<=0) (hs:s<n) (h0:f s<0):i9 f n<0:=by
 rw [E6 hs]
 have:=a96 (f:=fun j=>if j=s then 0 else f j) (n:=n) fun j hj=>by split;grind;exact h j hj
 grind
theorem b76 {f:Nat->Rat} {n s:Nat} (h:∀j,j<n->0<=f j) (hs:s<n) (h0:0<f s):0<i9 f n:=by
 rw [E6 hs]
 have:=a1D (f:=fun j=>if j=s then 0 else f j) (n:=n) fun j hj=>by
  by_cases hj2:j=s
  ·simp only [hj2,if_true];grind
  ·simp only [if_neg hj2];exact h j hj
 grind
def Ids (m n:Nat) (D:Fd) (y:Nat->Rat) (c:Rat):Prop:=∀i,i<m->y (D.O i)=c*D.V i - i9 (fun j=>D.A i j*y (D.F j)) n
theorem a9o {D:Fd} {r s n:Nat} {y:Nat->Rat} (hs:s<n) (f:Nat->Rat) (f':Nat->Rat) (k:Rat) (hf:∀j,j≠s->f' j=f j - k*D.pRow r s j):
 i9 (fun j=>f' j*y ((D.exch r s).F j)) n=i9 (fun j=>if j=s then 0 else f j*y (D.F j)) n - k*i9 (fun j=>if j=s then 0 else D.pRow r s j*y (D.F j)) n+f' s*y (D.O r):=by
 rw [E6 hs]
 have h1:(D.exch r s).F s=D.O r:=by show (if s=s then D.O r else D.F s)=_;rw [if_pos rfl]
 rw [h1]
 have h2:i9 (fun j=>if j=s then 0 else f' j*y ((D.exch r s).F j)) n=i9 (fun j=>(if j=s then 0 else f j*y (D.F j))+(-k)*(if j=s then 0 else D.pRow r s j*y (D.F j))) n:=j0 fun j hj=>by
  by_cases h:j=s
  ·rw [if_pos h,if_pos h,if_pos h];grind
  ·rw [if_neg h,if_neg h,if_neg h,hf j h]
   have:(D.exch r s).F j=D.F j:=by show (if j=s then D.O r else D.F j)=_;rw [if_neg h]
   rw [this];grind
 rw [h2,a1a,G7];grind
theorem ai3 {D:Fd} {r s n:Nat} {y:Nat->Rat} {c:Rat} (hs:s<n) (hp:D.A r s≠0):
 y (D.O r)=c*D.V r - i9 (fun j=>D.A r j*y (D.F j)) n↔y (D.F s)=c*(D.V r / D.A r s) - i9 (fun j=>if j=s then 0 else D.pRow r s j*y (D.F j)) n - 1 / D.A r s*y (D.O r):=by
 have e1:i9 (fun j=>D.A r j*y (D.F j)) n=D.A r s*i9 (fun j=>if j=s then 0 else D.pRow r s j*y (D.F j)) n+D.A r s*y (D.F s):=by
  rw [E6 hs,←G7]
  congr 1
  refine j0 fun j hj=>?_
  by_cases h:j=s
  ·simp only [if_pos h];grind
  ·simp only [if_neg h]
   unfold Fd.pRow
   rw [if_neg h];grind
 rw [e1]
 generalize i9 (fun j=>if j=s then 0 else D.pRow r s j*y (D.F j)) n=R
 generalize y (D.F s)=a
 generalize y (D.O r)=b
 generalize D.V r=v
 generalize D.A r s=p at *
 constructor
 ·intro h;rw [h];grind
 ·intro h;rw [h];grind
theorem aa9 {m n:Nat} {D:Fd} {r s:Nat} {y:Nat->Rat} {c:Rat} (hr:r<m) (hs:s<n) (hp:D.A r s≠0):Ids m n D y c↔Ids m n (D.exch r s) y c:=by
 have hO:(D.exch r s).O r=D.F s:=by show (if r=r then D.F s else D.O r)=_;rw [if_pos rfl]
 have hV:(D.exch r s).V r=D.V r / D.A r s:=by show (if r=r then _ else _)=_;rw [if_pos rfl]
 have hA:∀j,(D.exch r s).A r j=D.pRow r s j:=fun j=>by show (if r=r then _ else _)=_;rw [if_pos rfl]
 have hps:D.pRow r s s=1 / D.A r s:=by unfold Fd.pRow;rw [if_pos rfl]
 have rowr:(y ((D.exch r s).O r)=c*(D.exch r s).V r - i9 (fun j=>(D.exch r s).A r j*y ((D.exch r s).F j)) n)↔y (D.O r)=c*D.V r - i9 (fun j=>D.A r j*y (D.F j)) n:=by
  rw [ai3 hs hp,hO,hV]
  have h:=a9o (D:=D) (r:=r) (y:=y) hs (fun _=>0) ((D.exch r s).A r) (-1) (fun j hj=>by rw [hA];grind)
  rw [h,hA,hps,A7 (f:=fun j=>if j=s then 0 else 0*y (D.F j)) (fun j _=>by split<;>grind)]
  constructor
  ·intro h;rw [h];grind
  ·intro h;rw [h];grind
 have rowi:∀i,i≠r->y (D.O r)=c*D.V r - i9 (fun j=>D.A r j*y (D.F j)) n->
  ((y ((D.exch r s).O i)=c*(D.exch r s).V i - i9 (fun j=>(D.exch r s).A i j*y ((D.exch r s).F j)) n)↔y (D.O i)=c*D.V i - i9 (fun j=>D.A i j*y (D.F j)) n):=fun i hi h0=>by
  rw [ai3 hs hp] at h0
  have h1:(D.exch r s).O i=D.O i:=by show (if i=r then _ else _)=_;rw [if_neg hi]
  have h2:(D.exch r s).V i=D.V i - D.A i s*(D.V r / D.A r s):=by show (if i=r then _ else _)=_;rw [if_neg hi]
  have h3:∀j,j≠s->(D.exch r s).A i j=D.A i j - D.A i s*D.pRow r s j:=fun j hj=>by show (if i=r then _ else _)=_;rw [if_neg hi,if_neg hj]
  have h4:(D.exch r s).A i s=0 - D.A i s*D.pRow r s s:=by show (if i=r then _ else _)=_;rw [if_neg hi,if_pos rfl]
  rw [h1,h2,a9o hs (D.A i) ((D.exch r s).A i) (D.A i s) h3,h4,hps,E6 (f:=fun j=>D.A i j*y (D.F j)) hs,h0]
  constructor
  ·intro h;rw [h];grind
  ·intro h;rw [h];grind
 constructor
 ·intro h i hi
  by_cases hir:i=r
  ·subst hir;exact rowr.2 (h i hi)
  ·exact (rowi i hir (h r hr)).2 (h i hi)
 ·intro h i hi
  have h0:=rowr.1 (h r hr)
  by_cases hir:i=r
  ·subst hir;exact h0
  ·exact (rowi i hir h0).1 (h i hi)
def Z9 (n:Nat) (D:Fd) (g0:Nat->Rat) (m:Nat) (z:Rat):Prop:=∀y c,Ids m n D y c->i9 (fun j=>g0 j*y j) n=c*z+i9 (fun j=>D.G j*y (D.F j)) n
theorem ap8 {m n:Nat} {D:Fd} {r s:Nat} {g0:Nat->Rat} {z:Rat} (hr:r<m) (hs:s<n) (hp:D.A r s≠0) (h:Z9 n D g0 m z):Z9 n (D.exch r s) g0 m (z+D.G s*(D.V r / D.A r s)):=by
 intro y c hy
 have hy:=(aa9 hr hs hp).2 hy
 rw [h y c hy]
 have h0:=(ai3 hs hp).1 (hy r hr)
 have hps:D.pRow r s s=1 / D.A r s:=by unfold Fd.pRow;rw [if_pos rfl]
 have h3:∀j,j≠s->(D.exch r s).G j=D.G j - D.G s*D.pRow r s j:=fun j hj=>by show (if j=s then _ else _)=_;rw [if_neg hj]
 have h4:(D.exch r s).G s=0 - D.G s*D.pRow r s s:=by show (if s=s then _ else _)=_;rw [if_pos rfl]
 rw [a9o hs D.G (D.exch r s).G (D.G s) h3,h4,hps,E6 (f:=fun j=>D.G j*y (D.F j)) hs,h0]
 grind
end
def aj4 (f:Nat->Nat) (w:Nat):Nat->Option Nat
 |0=>none
 |k+1=>match aj4 f w k with
  |some i=>some i
  |none=>if f k=w then some k else none
theorem a5d {f:Nat->Nat} {w:Nat}:∀{k i:Nat},aj4 f w k=some i->i<k∧f i=w
 |0,i,h=>by cases h
 |k+1,i,h=>by
  unfold aj4 at h
  split at h
  ·rename_i i' hi;injection h with h;subst h;have:=a5d hi;exact ⟨by omega,this.2⟩
  ·split at h
   ·injection h with h;subst h;exact ⟨by omega,by assumption⟩
   ·cases h
theorem a81 {f:Nat->Nat} {w:Nat}:∀{k:Nat},aj4 f w k=none->∀i,i<k->f i≠w
 |0,_,i,hi=>by omega
 |k+1,h,i,hi=>by
  unfold aj4 at h
  split at h
  ·cases h
  ·rename_i hn
   split at h
   ·cases h
   ·by_cases hik:i=k
    ·subst hik;assumption
    ·exact a81 hn i (by omega)
structure Y3 (m n:Nat) (D:Fd):Prop where
 oi:∀i i',i<m->i'<m->D.O i=D.O i'->i=i'
 fi:∀j j',j<n->j'<n->D.F j=D.F j'->j=j'
 of:∀i j,i<m->j<n->D.O i≠D.F j
 all:∀w,w<n+m->(∃ i,i<m∧D.O i=w)∨(∃ j,j<n∧D.F j=w)
 ob:∀i,i<m->D.O i<n+m
 fb:∀j,j<n->D.F j<n+m
theorem a7U {D:Fd} {r s i:Nat}:(D.exch r s).O i=if i=r then D.F s else D.O i:=rfl
theorem a1G {D:Fd} {r s j:Nat}:(D.exch r s).F j=if j=s then D.O r else D.F j:=rfl
theorem an2 {m n:Nat} {D:Fd} {r s:Nat} (hr:r<m) (hs:s<n) (h:Y3 m n D):Y3 m n (D.exch r s) where
 oi:=fun i i' hi hi' he=>by
  rw [a7U,a7U] at he
  by_cases h1:i=r<;>by_cases h2:i'=r
  ·omega
  ·rw [if_pos h1,if_neg h2] at he;exact absurd he.symm (h.of i' s hi' hs)
  ·rw [if_neg h1,if_pos h2] at he;exact absurd he (h.of i s hi hs)
  ·rw [if_neg h1,if_neg h2] at he;exact h.oi i i' hi hi' he
 fi:=fun j j' hj hj' he=>by
  rw [a1G,a1G] at he
  by_cases h1:j=s<;>by_cases h2:j'=s
  ·omega
  ·rw [if_pos h1,if_neg h2] at he;exact absurd he (h.of r j' hr hj')
  ·rw [if_neg h1,if_pos h2] at he;exact absurd he.symm (h.of r j hr hj)
  ·rw [if_neg h1,if_neg h2] at he;exact h.fi j j' hj hj' he
 of:=fun i j hi hj he=>by
  rw [a7U,a1G] at he
  by_cases h1:i=r<;>by_cases h2:j=s
  ·rw [if_pos h1,if_pos h2] at he;exact h.of r s hr hs he.symm
  ·rw [if_pos h1,if_neg h2] at he;exact h2 (h.fi s j hs hj he).symm
  ·rw [if_neg h1,if_pos h2] at he;exact h1 (h.oi i r hi hr he)
  ·rw [if_neg h1,if_neg h2] at he;exact h.of i j hi hj he
 all:=fun w hw=>by
  rcases h.all w hw with ⟨i,hi,he⟩|⟨j,hj,he⟩
  ·by_cases h1:i=r
   ·exact .inr ⟨s,hs,by rw [a1G,if_pos rfl,←h1];exact he⟩
   ·exact .inl ⟨i,hi,by rw [a7U,if_neg h1];exact he⟩
  ·by_cases h1:j=s
   ·exact .inl ⟨r,hr,by rw [a7U,if_pos rfl,←h1];exact he⟩
   ·exact .inr ⟨j,hj,by rw [a1G,if_neg h1];exact he⟩
 ob:=fun i hi=>by rw [a7U];split;exact h.fb s hs;exact h.ob i hi
 fb:=fun j hj=>by rw [a1G];split;exact h.ob r hr;exact h.fb j hj
def N4 (m n:Nat) (D:Fd) (c:Rat) (t:Nat->Rat) (w:Nat):Rat:=match aj4 D.F w n with
 |some j=>t j
 |none=>match aj4 D.O w m with
  |some i=>c*D.V i - i9 (fun j=>D.A i j*t j) n
  |none=>0
theorem a0f {m n:Nat} {D:Fd} (h:Y3 m n D) {c:Rat} {t:Nat->Rat} {j:Nat} (hj:j<n):N4 m n D c t (D.F j)=t j:=by
 unfold N4
 cases hi:aj4 D.F (D.F j) n with
 |none=>exact absurd rfl (a81 hi j hj)
 |some i=>obtain ⟨h1,h2⟩:=a5d hi;rw [h.fi i j h1 hj h2]
theorem a3O {m n:Nat} {D:Fd} (h:Y3 m n D) {c:Rat} {t:Nat->Rat} {i:Nat} (hi:i<m):N4 m n D c t (D.O i)=c*D.V i - i9 (fun j=>D.A i j*t j) n:=by
 unfold N4
 cases hj:aj4 D.F (D.O i) n with
 |some j=>obtain ⟨h1,h2⟩:=a5d hj;exact absurd h2.symm (h.of i j hi h1)
 |none=>
  cases hk:aj4 D.O (D.O i) m with
  |none=>exact absurd rfl (a81 hk i hi)
  |some k=>obtain ⟨h1,h2⟩:=a5d hk;rw [h.oi k i h1 hi h2]
theorem U3 {m n:Nat} {D:Fd} (h:Y3 m n D) (c:Rat) (t:Nat->Rat):Ids m n D (N4 m n D c t) c:=fun i hi=>by
 rw [a3O h hi]
 congr 1
 exact j0 fun j hj=>by rw [a0f h hj]
def X2 (f:Nat->Nat) (p:Nat->Bool):Nat->Option Nat
 |0=>none
 |k+1=>match X2 f p k with
  |none=>if p k then some k else none
  |some a=>if p k && decide (f k<f a) then some k else some a
theorem a0O {f:Nat->Nat} {p:Nat->Bool}:∀{k:Nat},X2 f p k=none->∀i,i<k->p i=false
 |0,_,i,hi=>by omega
 |k+1,h,i,hi=>by
  unfold X2 at h
  split at h
  ·rename_i hn
   split at h
   ·cases h
   ·rename_i hp
    by_cases hik:i=k
    ·subst hik;simpa using hp
    ·exact a0O hn i (by omega)
  ·split at h<;>cases h
theorem J7 {f:Nat->Nat} {p:Nat->Bool}:∀{k a:Nat},X2 f p k=some a->a<k∧p a=true∧∀i,i<k->p i=true->f a<=f i
 |0,a,h=>by cases h
 |k+1,a,h=>by
  unfold X2 at h
  split at h
  ·rename_i hn
   split at h
   ·rename_i hp
    injection h with h;subst h
    refine ⟨by omega,hp,fun i hi hpi=>?_⟩
    by_cases hik:i=k
    ·subst hik;omega
    ·rw [a0O hn i (by omega)] at hpi;cases hpi
   ·cases h
  ·rename_i b hb
   obtain ⟨h1,h2,h3⟩:=J7 hb
   split at h
   ·rename_i hc
    injection h with h;subst h
    simp only [lbN,lbJ] at hc
    refine ⟨by omega,hc.1,fun i hi hpi=>?_⟩
    by_cases hik:i=k
    ·subst hik;omega
    ·have:=h3 i (by omega) hpi;omega
   ·rename_i hc
    injection h with h;subst h
    refine ⟨by omega,h2,fun i hi hpi=>?_⟩
    by_cases hik:i=k
    ·subst hik
     have:¬(f i<f b):=fun h=>hc (by simp [hpi,h])
     omega
    ·exact h3 i (by omega) hpi
inductive b4Q where
 |best
 |row (r:Nat)
 |col (s:Nat)
 |next (r s:Nat)
def a13 (n:Nat) (D:Fd) (r:Nat):b4Q:=match X2 D.F (fun j=>decide (D.A r j<0)) n with
 |none=>.row r
 |some s=>.next r s
def a14 (m:Nat) (D:Fd) (s:Nat):b4Q:=match X2 D.O (fun i=>decide (0<D.A i s)) m with
 |none=>.col s
 |some r=>.next r s
def F7 (m n:Nat) (D:Fd):b4Q:=match X2 D.O (fun i=>decide (D.V i<0)) m,X2 D.F (fun j=>decide (0<D.G j)) n with
 |none,none=>.best
 |some r,none=>a13 n D r
 |none,some s=>a14 m D s
 |some r,some s=>if D.O r<D.F s then a13 n D r else a14 m D s
structure aq0 (m n:Nat) (D:Fd) (r s:Nat):Prop where
 v:D.V r<0
 a:D.A r s<0
 f:∀j,j<n->D.F j<D.F s->0<=D.A r j
 o:∀i,i<m->D.O i<D.O r->0<=D.V i
 g:∀j,j<n->D.F j<D.O r->D.G j<=0
structure at4 (m n:Nat) (D:Fd) (r s:Nat):Prop where
 g:0<D.G s
 a:0<D.A r s
 o:∀i,i<m->D.O i<D.O r->D.A i s<=0
 f:∀j,j<n->D.F j<D.F s->D.G j<=0
 v:∀i,i<m->D.O i<D.F s->0<=D.V i
theorem aL0 {m n:Nat} {D:Fd} {r r' s:Nat} (hr:X2 D.O (fun i=>decide (D.V i<0)) m=some r) (hg:∀j,j<n->D.F j<D.O r->D.G j<=0) (h:a13 n D r=.next r' s):r'<m∧s<n∧aq0 m n D r' s:=by
 obtain ⟨a1,a2,a3⟩:=J7 hr
 unfold a13 at h
 split at h
 ·cases h
 ·rename_i s' hs'
  injection h with h1 h2;subst h1;subst h2
  obtain ⟨b1,b2,b3⟩:=J7 hs'
  refine ⟨a1,b1,lbM a2,lbM b2,fun j hj hlt=>?_,fun i hi hlt=>?_,hg⟩
  ·exact lb3.1 fun h=>by have:=b3 j hj (lbI h);omega
  ·exact lb3.1 fun h=>by have:=a3 i hi (lbI h);omega
theorem aQ1 {m n:Nat} {D:Fd} {s s' r:Nat} (hs:X2 D.F (fun j=>decide (0<D.G j)) n=some s) (hv:∀i,i<m->D.O i<D.F s->0<=D.V i) (h:a14 m D s=.next r s'):r<m∧s'<n∧at4 m n D r s':=by
 obtain ⟨a1,a2,a3⟩:=J7 hs
 unfold a14 at h
 split at h
 ·cases h
 ·rename_i r' hr'
  injection h with h1 h2;subst h1;subst h2
  obtain ⟨b1,b2,b3⟩:=J7 hr'
  refine ⟨b1,a1,lbM a2,lbM b2,fun i hi hlt=>?_,fun j hj hlt=>?_,hv⟩
  ·exact lb3.1 fun h=>by have:=b3 i hi (lbI h);omega
  ·exact lb3.1 fun h=>by have:=a3 j hj (lbI h);omega
theorem a5b {m n:Nat} {D:Fd} {r s:Nat} (h:F7 m n D=.next r s):r<m∧s<n∧(aq0 m n D r s∨at4 m n D r s):=by
 unfold F7 at h
 cases hr:X2 D.O (fun i=>decide (D.V i<0)) m with
 |none=>
  have hv:∀i,i<m->0<=D.V i:=fun i hi=>lb3.1 (of_decide_eq_false (a0O hr i hi))
  cases hs:X2 D.F (fun j=>decide (0<D.G j)) n with
  |none=>rw [hr,hs] at h;cases h
  |some s'=>
   rw [hr,hs] at h
   obtain ⟨q1,q2,q3⟩:=aQ1 hs (fun i hi _=>hv i hi) h
   exact ⟨q1,q2,.inr q3⟩
 |some r'=>
  obtain ⟨a1,a2,a3⟩:=J7 hr
  cases hs:X2 D.F (fun j=>decide (0<D.G j)) n with
  |none=>
   rw [hr,hs] at h
   obtain ⟨q1,q2,q3⟩:=aL0 (n:=n) hr (fun j hj _=>lb3.1 (of_decide_eq_false (a0O hs j hj))) h
   exact ⟨q1,q2,.inl q3⟩
  |some s'=>
   rw [hr,hs] at h
   obtain ⟨b1,b2,b3⟩:=J7 hs
   simp only at h
   split at h
   ·rename_i hlt
    obtain ⟨q1,q2,q3⟩:=aL0 (n:=n) hr (fun j hj hj2=>lb3.1 fun h=>by have:=b3 j hj (lbI h);omega) h
    exact ⟨q1,q2,.inl q3⟩
   ·rename_i hlt
    obtain ⟨q1,q2,q3⟩:=aQ1 hs (fun i hi hi2=>lb3.1 fun h=>by have:=a3 i hi (lbI h);omega) h
    exact ⟨q1,q2,.inr q3⟩
theorem a6P {m n:Nat} {D:Fd} {r s:Nat} (h:aq0 m n D r s∨at4 m n D r s):D.A r s≠0:=by
 rcases h with h|h
 ·have:=h.a;intro h0;rw [h0] at this;exact absurd this (by grind)
 ·have:=h.a;intro h0;rw [h0] at this;exact absurd this (by grind)
theorem b41 {m n:Nat} {D D':Fd} {g0:Nat->Rat} {z z':Rat} (hP:Y3 m n D) (hP':Y3 m n D') (hI:∀y c,Ids m n D y c↔Ids m n D' y c) (hG:Z9 n D g0 m z) (hG':Z9 n D' g0 m z')
 {r s r' s' q:Nat} (hr:r<m) (hs:s<n) (hr':r'<m) (hs':s'<n) (h:aq0 m n D r s∨at4 m n D r s) (h':aq0 m n D' r' s'∨at4 m n D' r' s') (hq:D.F s=q) (hq':D'.O r'=q)
 (hrq:D.O r<q) (hsq:D'.F s'<q) (hst:∀w,q<w->((∃ j,j<n∧D.F j=w)↔∃j,j<n∧D'.F j=w)):False:=by
 have hfree:∀j,j<n->q<D.F j->∃k,k<n∧D'.F k=D.F j:=fun j hj hlt=>(hst _ hlt).1 ⟨j,hj,rfl⟩
 -- a vector of the second dictionary
 obtain ⟨c,y,hc,hy,ypos,yq,yfree,hobj⟩:∃(c:Rat) (y:Nat->Rat),(c=0∨c=1)∧Ids m n D' y c∧(∀ w,w<n+m->w<q->0<=y w)∧y q<0∧(∀ j,j<n->q<D.F j->y (D.F j)=0)∧
  ((c=0∧0<i9 (fun j=>g0 j*y j) n)∨(c=1∧i9 (fun j=>g0 j*y j) n=z'∧∀j,j<n->D'.F j<q->D'.G j<=0)):=by
  rcases h' with h'|h'
  ·refine ⟨1,N4 m n D' 1 (fun _=>0),.inr rfl,U3 hP' 1 _,fun w hw hwq=>?_,?_,fun j hj hlt=>?_,.inr ⟨rfl,?_,fun j hj hlt=>h'.g j hj (by rw [hq'];exact hlt)⟩⟩
   ·rcases hP'.all w hw with ⟨i,hi,rfl⟩|⟨j,hj,rfl⟩
    ·rw [a3O hP' hi,A7 fun j _=>by grind]
     have:=h'.o i hi (by rw [hq'];exact hwq)
     grind
    ·rw [a0f hP' hj];grind
   ·rw [← hq',a3O hP' hr',A7 fun j _=>by grind]
    have:=h'.v
    grind
   ·obtain ⟨k,hk,he⟩:=hfree j hj hlt
    rw [← he,a0f hP' hk]
   ·rw [hG' _ 1 (U3 hP' 1 _),A7 fun j hj=>by rw [a0f hP' hj];grind];grind
  ·refine ⟨0,N4 m n D' 0 (fun j=>if j=s' then 1 else 0),.inl rfl,U3 hP' 0 _,fun w hw hwq=>?_,?_,fun j hj hlt=>?_,.inl ⟨rfl,?_⟩⟩
   ·have hone:∀i,i9 (fun j=>D'.A i j*(if j=s' then 1 else 0)) n=D'.A i s':=fun i=>by
     rw [E6 hs',A7 fun j _=>by by_cases hj:j=s'<;>simp [hj]]
     simp;grind
    rcases hP'.all w hw with ⟨i,hi,rfl⟩|⟨j,hj,rfl⟩
    ·rw [a3O hP' hi,hone]
     have:=h'.o i hi (by rw [hq'];exact hwq)
     grind
    ·rw [a0f hP' hj];split<;>grind
   ·have hone:i9 (fun j=>D'.A r' j*(if j=s' then 1 else 0)) n=D'.A r' s':=by
     rw [E6 hs',A7 fun j _=>by by_cases hj:j=s'<;>simp [hj]]
     simp;grind
    rw [← hq',a3O hP' hr',hone]
    have:=h'.a
    grind
   ·obtain ⟨k,hk,he⟩:=hfree j hj hlt
    rw [← he,a0f hP' hk,if_neg]
    intro hks
    rw [hks] at he;omega
   ·rw [hG' _ 0 (U3 hP' 0 _)]
    have:i9 (fun j=>D'.G j*N4 m n D' 0 (fun j=>if j=s' then 1 else 0) (D'.F j)) n=D'.G s':=by
     rw [j0 (g:=fun j=>D'.G j*(if j=s' then 1 else 0)) fun j hj=>by rw [a0f hP' hj],E6 hs',A7 fun j _=>by by_cases hj:j=s'<;>simp [hj]]
     simp;grind
    rw [this]
    have:=h'.g
    grind
 have hy2:=(hI y c).2 hy
 -- the terms of the first dictionary
 have hF:∀j,j<n->(D.F j<q∧0<=y (D.F j))∨(j=s∧y (D.F j)<0)∨y (D.F j)=0:=fun j hj=>by
  rcases Nat.lt_trichotomy (D.F j) q with hlt|heq|hgt
  ·exact .inl ⟨hlt,ypos _ (hP.fb j hj) hlt⟩
  ·refine .inr (.inl ⟨hP.fi j s hj hs (by omega),by rw [heq];exact yq⟩)
  ·exact .inr (.inr (yfree j hj hgt))
 rcases h with h|h
 · -- by its row
   have hid:=hy2 r hr
   have h1:0<i9 (fun j=>D.A r j*y (D.F j)) n:=b76 (s:=s) (fun j hj=>by
    rcases hF j hj with ⟨a,b⟩|⟨rfl,b⟩|b
    ·exact lb1 (h.f j hj (by rw [hq];exact a)) b
    ·have:=h.a;exact Rat.le_of_lt (by have:=Rat.mul_pos (a:=-D.A r j) (b:=-y (D.F j)) (by grind) (by grind);grind)
    ·rw [b];grind) hs (by
    have:=h.a
    have hyq:y (D.F s)<0:=by rw [hq];exact yq
    have:=Rat.mul_pos (a:=-D.A r s) (b:=-y (D.F s)) (by grind) (by grind);grind)
   have h2:0<=y (D.O r):=ypos _ (hP.ob r hr) hrq
   have h3:=h.v
   rcases hc with rfl|rfl
   ·grind
   ·grind
 · -- by its goal
   have h1:i9 (fun j=>D.G j*y (D.F j)) n<0:=b7n (s:=s) (fun j hj=>by
    rcases hF j hj with ⟨a,b⟩|⟨rfl,b⟩|b
    ·have:=h.f j hj (by rw [hq];exact a)
     have:=lb1 (a:=-D.G j) (b:=y (D.F j)) (by grind) b
     grind
    ·have:=h.g
     have:=Rat.mul_pos (a:=D.G j) (b:=-y (D.F j)) (by grind) (by grind)
     grind
    ·rw [b];grind) hs (by
    have:=h.g
    have hyq:y (D.F s)<0:=by rw [hq];exact yq
    have:=Rat.mul_pos (a:=D.G s) (b:=-y (D.F s)) (by grind) (by grind)
    grind)
   have hg:=hG y c hy2
   rcases hobj with ⟨rfl,ho⟩|⟨rfl,ho,hneg⟩
   ·grind
   · -- the basic point of the first dictionary
     have k1:=hG (N4 m n D 1 (fun _=>0)) 1 (U3 hP 1 _)
     rw [A7 (f:=fun j=>D.G j*N4 m n D 1 (fun _=>0) (D.F j)) fun j hj=>by rw [a0f hP hj];grind] at k1
     have k2:=hG' (N4 m n D 1 (fun _=>0)) 1 ((hI _ 1).1 (U3 hP 1 _))
     have k3:i9 (fun j=>D'.G j*N4 m n D 1 (fun _=>0) (D'.F j)) n<=0:=a96 fun j hj=>by
      have hv:∀w,w<n+m->w<q->0<=N4 m n D 1 (fun _=>0) w:=fun w hw hwq=>by
       rcases hP.all w hw with ⟨i,hi,rfl⟩|⟨k,hk,rfl⟩
       ·rw [a3O hP hi,A7 fun j _=>by grind]
        have:=h.v i hi (by rw [hq];exact hwq)
        grind
       ·rw [a0f hP hk];grind
      rcases Nat.lt_trichotomy (D'.F j) q with hlt|heq|hgt
      ·have a1:=hneg j hj hlt
       have a2:=hv _ (hP'.fb j hj) hlt
       have:=lb1 (a:=-D'.G j) (by grind) a2
       grind
      ·exact absurd (hq'.trans heq.symm) (hP'.of r' j hr' hj)
      ·obtain ⟨k,hk,he⟩:=(hst _ hgt).2 ⟨j,hj,rfl⟩
       rw [← he,a0f hP hk];grind
     grind
def I9 (m n:Nat) (D:Fd):Option Fd:=match F7 m n D with
 |.next r s=>some (D.exch r s)
 |_=>none
theorem a68 {m n:Nat} {D D':Fd} (h:I9 m n D=some D'):∃r s,F7 m n D=.next r s∧D'=D.exch r s:=by
 unfold I9 at h
 split at h
 ·rename_i r s hs;injection h with h;exact ⟨r,s,hs,h.symm⟩
 ·cases h
theorem ag2 {P:Nat->Nat->Prop}:∀N:Nat,(∀ w,w<N->∃T,∀k,T<=k->¬P k w)->∃T,∀w,w<N->∀k,T<=k->¬P k w
 |0,_=>⟨0,fun w hw=>by omega⟩
 |N+1,h=>by
  obtain ⟨T,hT⟩:=ag2 (P:=P) N fun w hw=>h w (by omega)
  obtain ⟨T',hT'⟩:=h N (by omega)
  refine ⟨max T T',fun w hw k hk=>?_⟩
  by_cases hwn:w=N
  ·subst hwn;exact hT' k (by omega)
  ·exact hT w (by omega) k (by omega)
theorem ah5 {p:Nat->Prop}:∀N:Nat,(∃ w,w<N∧p w)->∃q,q<N∧p q∧∀w,q<w->w<N->¬p w
 |0,⟨w,hw,_⟩=>by omega
 |N+1,⟨w,hw,hp⟩=>by
  by_cases h:p N
  ·exact ⟨N,by omega,h,fun w h1 h2=>by omega⟩
  ·have hwN:w≠N:=fun e=>h (e ▸ hp)
   obtain ⟨q,h1,h2,h3⟩:=ah5 N ⟨w,by omega,hp⟩
   refine ⟨q,by omega,h2,fun w h4 h5=>?_⟩
   by_cases hw2:w=N
   ·subst hw2;exact h
   ·exact h3 w h4 (by omega)
theorem a3f (p:Nat->Prop) (h:∃n,p n):∃n,p n∧∀m,p m->n<=m:=by
 obtain ⟨n,hn⟩:=h
 induction n using Nat.strongRecOn with
 |_ n ih=>
  by_cases hex:∃m,m<n∧p m
  ·obtain ⟨m,hm,hp⟩:=hex
   exact ih m hm hp
  ·exact ⟨n,hn,fun m hm=>Nat.le_of_not_lt fun h=>hex ⟨m,h,hm⟩⟩
theorem b83 {m n:Nat} {f:Nat->Fd} {g0:Nat->Rat} (hP0:Y3 m n (f 0)) (hG0:∃z,Z9 n (f 0) g0 m z) (hf:∀k,I9 m n (f k)=some (f (k+1))):False:=by
 have hstep:∀k,∃rs:Nat × Nat,rs.1<m∧rs.2<n∧(aq0 m n (f k) rs.1 rs.2∨at4 m n (f k) rs.1 rs.2)∧f (k+1)=(f k).exch rs.1 rs.2:=fun k=>by
  obtain ⟨r,s,h1,h2⟩:=a68 (hf k)
  obtain ⟨a,b,c⟩:=a5b h1
  exact ⟨(r,s),a,b,c,h2⟩
 obtain ⟨W,hW⟩:=Classical.axiomOfChoice hstep
 have hP:∀k,Y3 m n (f k):=fun k=>by
  induction k with
  |zero=>exact hP0
  |succ k ih=>obtain ⟨a,b,_,d⟩:=hW k;rw [d];exact an2 a b ih
 have hI:∀k y c,Ids m n (f 0) y c↔Ids m n (f k) y c:=fun k=>by
  induction k with
  |zero=>exact fun _ _=>Iff.rfl
  |succ k ih=>obtain ⟨a,b,c',d⟩:=hW k;rw [d];exact fun y c=>(ih y c).trans (aa9 a b (a6P c'))
 have hG:∀k,∃z,Z9 n (f k) g0 m z:=fun k=>by
  induction k with
  |zero=>exact hG0
  |succ k ih=>obtain ⟨a,b,c',d⟩:=hW k;obtain ⟨z,hz⟩:=ih;rw [d];exact ⟨_,ap8 a b (a6P c') hz⟩
 let E:Nat->Nat:=fun k=>(f k).F (W k).2
 let L:Nat->Nat:=fun k=>(f k).O (W k).1
 have hE:∀k,E k<n+m:=fun k=>(hP k).fb _ (hW k).2.1
 have hL:∀k,L k<n+m:=fun k=>(hP k).ob _ (hW k).1
 have hEL:∀k,L k≠E k:=fun k=>(hP k).of _ _ (hW k).1 (hW k).2.1
 let fre:Nat->Nat->Prop:=fun k w=>∃j,j<n∧(f k).F j=w
 have hfre:∀k w,w≠E k->w≠L k->(fre (k+1) w↔fre k w):=fun k w h1 h2=>by
  obtain ⟨a,b,_,d⟩:=hW k
  show (∃ j,j<n∧(f (k+1)).F j=w)↔∃j,j<n∧(f k).F j=w
  rw [d]
  constructor
  ·rintro ⟨j,hj,he⟩
   rw [a1G] at he
   by_cases hjs:j=(W k).2
   ·rw [if_pos hjs] at he;exact absurd he.symm h2
   ·rw [if_neg hjs] at he;exact ⟨j,hj,he⟩
  ·rintro ⟨j,hj,he⟩
   have hjs:j≠(W k).2:=fun h=>h1 (by rw [← he,h])
   exact ⟨j,hj,by rw [a1G,if_neg hjs];exact he⟩
 have hin:∀k,fre k (E k):=fun k=>⟨_,(hW k).2.1,rfl⟩
 have hout:∀k,¬fre k (L k):=fun k=>by rintro ⟨j,hj,he⟩;exact (hP k).of _ _ (hW k).1 hj he.symm
 have hin2:∀k,fre (k+1) (L k):=fun k=>by
  obtain ⟨a,b,_,d⟩:=hW k
  show ∃j,j<n∧(f (k+1)).F j=L k
  rw [d];exact ⟨_,b,by rw [a1G,if_pos rfl]⟩
 have hout2:∀k,¬fre (k+1) (E k):=fun k=>by
  obtain ⟨a,b,_,d⟩:=hW k
  show ¬∃j,j<n∧(f (k+1)).F j=E k
  rw [d]
  rintro ⟨j,hj,he⟩
  rw [a1G] at he
  by_cases hjs:j=(W k).2
  ·rw [if_pos hjs] at he;exact hEL k he
  ·rw [if_neg hjs] at he;exact hjs ((hP k).fi _ _ hj b he)
 let mv:Nat->Nat->Prop:=fun k w=>E k=w∨L k=w
 obtain ⟨q,hqN,hio,hmax⟩:=ah5 (p:=fun w=>∀T,∃k,T<=k∧mv k w) (n+m) (a0k fun hno=>by
  have h1:∀w,w<n+m->∃T,∀k,T<=k->¬mv k w:=fun w hw=>a0k fun h=>hno ⟨w,hw,fun T=>a0k fun h'=>h ⟨T,fun k hk hm=>h' ⟨k,hk,hm⟩⟩⟩
  obtain ⟨T,hT⟩:=ag2 (P:=mv) _ h1
  exact hT _ (hE T) T (lbR _) (.inl rfl))
 obtain ⟨T,hT⟩:∃T,∀w,q<w->∀k,T<=k->¬mv k w:=by
  obtain ⟨T,hT⟩:=ag2 (P:=fun k w=>q<w∧mv k w) (n+m) fun w hw=>by
   by_cases hqw:q<w
   ·have:=hmax w hqw hw
    obtain ⟨T,hT⟩:=Classical.not_forall.1 this
    exact ⟨T,fun k hk ⟨_,hm⟩=>hT ⟨k,hk,hm⟩⟩
   ·exact ⟨0,fun k _ ⟨h,_⟩=>hqw h⟩
  refine ⟨T,fun w hqw k hk hm=>?_⟩
  have hw:w<n+m:=by rcases hm with hm|hm<;>rw [← hm];exact hE k;exact hL k
  exact hT w hw k hk ⟨hqw,hm⟩
 have hEq:∀k,T<=k->E k<=q:=fun k hk=>Nat.le_of_not_lt fun h=>hT _ h k hk (.inl rfl)
 have hLq:∀k,T<=k->L k<=q:=fun k hk=>Nat.le_of_not_lt fun h=>hT _ h k hk (.inr rfl)
 have hconst:∀w,q<w->∀d,fre (T+d) w↔fre T w:=fun w hw d=>by
  induction d with
  |zero=>exact Iff.rfl
  |succ d ih=>
   have h1:=hEq (T+d) (by omega)
   have h2:=hLq (T+d) (by omega)
   exact (hfre (T+d) w (by omega) (by omega)).trans ih
 have hsame:∀w,q<w->∀t u,T<=t->T<=u->(fre t w↔fre u w):=fun w hw t u ht hu=>by
  have h1:=hconst w hw (t - T)
  have h2:=hconst w hw (u - T)
  rw [show T+(t - T)=t by omega] at h1
  rw [show T+(u - T)=u by omega] at h2
  exact h1.trans h2.symm
 -- q enters at some time, and leaves at some time
 have hnext:∀k1,T<=k1->mv k1 q->∃k2,T<=k2∧mv k2 q∧(fre k2 q↔fre (k1+1) q):=fun k1 h1 _=>by
  obtain ⟨k2,⟨h2,h3⟩,hleast⟩:=a3f (fun k=>k1+1<=k∧mv k q) (hio (k1+1))
  refine ⟨k2,by omega,h3,?_⟩
  have key:∀d,k1+1+d<=k2->(fre (k1+1+d) q↔fre (k1+1) q):=fun d=>by
   induction d with
   |zero=>exact fun _=>Iff.rfl
   |succ d ih=>
    intro hd
    have hnm:¬mv (k1+1+d) q:=fun h=>by have:=hleast (k1+1+d) ⟨by omega,h⟩;omega
    exact (hfre (k1+1+d) q (fun h=>hnm (.inl h.symm)) (fun h=>hnm (.inr h.symm))).trans (ih (by omega))
  have:=key (k2 - (k1+1)) (by omega)
  rwa [show k1+1+(k2 - (k1+1))=k2 by omega] at this
 have hboth:∃t u,T<=t∧T<=u∧E t=q∧L u=q:=by
  obtain ⟨k1,h1,hm1⟩:=hio T
  obtain ⟨k2,h2,hm2,hs⟩:=hnext k1 h1 hm1
  rcases hm1 with hm1|hm1
  ·rcases hm2 with hm2|hm2
   ·have a:=hin k2
    rw [hm2] at a
    have b:=hout2 k1
    rw [hm1] at b
    exact absurd (hs.1 a) b
   ·exact ⟨k1,k2,h1,h2,hm1,hm2⟩
  ·rcases hm2 with hm2|hm2
   ·exact ⟨k2,k1,h2,h1,hm2,hm1⟩
   ·have a:=hout k2
    rw [hm2] at a
    have b:=hin2 k1
    rw [hm1] at b
    exact absurd (hs.2 b) a
 obtain ⟨t,u,ht,hu,het,hlu⟩:=hboth
 obtain ⟨z,hz⟩:=hG t
 obtain ⟨z',hz'⟩:=hG u
 obtain ⟨a1,a2,a3,_⟩:=hW t
 obtain ⟨b1,b2,b3,_⟩:=hW u
 have hl:L t<q:=by have:=hLq t ht;have:=hEL t;omega
 have he:E u<q:=by have:=hEq u hu;have:=hEL u;omega
 exact b41 (hP t) (hP u) (fun y c=>(hI t y c).symm.trans (hI u y c)) hz hz' a1 a2 b1 b2 a3 b3 het hlu hl he (fun w hw=>hsame w hw t u ht hu)
def itS (m n:Nat):Nat->Fd->Option Fd
 |0,D=>some D
 |k+1,D=>match I9 m n D with
  |none=>none
  |some D'=>itS m n k D'
theorem a07 {m n:Nat}:∀(k:Nat) (D:Fd),itS m n (k+1) D=(itS m n k D).bind (I9 m n)
 |0,D=>by
  show (match I9 m n D with|none=>none|some D'=>some D')=I9 m n D
  cases I9 m n D<;>rfl
 |k+1,D=>by
  show (match I9 m n D with|none=>none|some D'=>itS m n (k+1) D')=(match I9 m n D with|none=>none|some D'=>itS m n k D').bind (I9 m n)
  cases I9 m n D with
  |none=>rfl
  |some D'=>exact a07 k D'
theorem b7J {m n:Nat} {D:Fd} {g0:Nat->Rat} (hP:Y3 m n D) (hG:∃z,Z9 n D g0 m z):∃k,itS m n k D=none:=a0k fun h=>by
 have h1:∀k,∃D',itS m n k D=some D':=fun k=>by
  cases hk:itS m n k D with
  |none=>exact absurd ⟨k,hk⟩ h
  |some D'=>exact ⟨D',rfl⟩
 obtain ⟨f,hf⟩:=Classical.axiomOfChoice h1
 have hf:∀k,itS m n k D=some (f k):=hf
 have h0:f 0=D:=by have:=hf 0;injection this with this;exact this.symm
 refine b83 (f:=f) (g0:=g0) (by rw [h0];exact hP) (by rw [h0];exact hG) fun k=>?_
 have h2:=a07 (m:=m) (n:=n) k D
 rw [hf k,hf (k+1)] at h2
 exact h2.symm
noncomputable def a8F (m n:Nat) (D:Fd):Nat:=Classical.epsilon fun k=>itS m n k D=none∧∀j,itS m n j D=none->k<=j
theorem b07 {m n:Nat} {D D':Fd} (h:∃k,itS m n k D=none) (hn:I9 m n D=some D'):a8F m n D'<a8F m n D:=by
 have hD:=Classical.epsilon_spec (a3f _ h)
 have h':∃k,itS m n k D'=none:=by
  obtain ⟨k,hk⟩:=h
  cases k with
  |zero=>cases hk
  |succ k=>
   have hk:(match I9 m n D with|none=>none|some D'=>itS m n k D')=none:=hk
   rw [hn] at hk;exact ⟨k,hk⟩
 have hD':=Classical.epsilon_spec (a3f _ h')
 have e:a8F m n D=Classical.epsilon fun k=>itS m n k D=none∧∀j,itS m n j D=none->k<=j:=rfl
 have e':a8F m n D'=Classical.epsilon fun k=>itS m n k D'=none∧∀j,itS m n j D'=none->k<=j:=rfl
 rw [← e] at hD
 rw [← e'] at hD'
 obtain ⟨a1,a2⟩:=hD
 obtain ⟨b1,b2⟩:=hD'
 generalize a8F m n D=k at a1 a2
 cases k with
 |zero=>cases a1
 |succ k=>
  have a1:(match I9 m n D with|none=>none|some D'=>itS m n k D')=none:=a1
  rw [hn] at a1
  have:=b2 k a1
  omega
structure EqI where
 co:Nat->Int
 rhs:Int
def a86 (k:Nat) (e:EqI) (u:Nat->Rat):Prop:=i9 (fun l=>((e.co l:Int):Rat)*u l) (k+1)=((e.rhs:Int):Rat)
theorem b79 {f g:Nat->Rat} (a b:Rat) (n:Nat):i9 (fun j=>a*f j - b*g j) n=a*i9 f n - b*i9 g n:=by
 rw [← G7 a,←G7 b]
 have:i9 (fun j=>a*f j - b*g j) n=i9 (fun j=>a*f j+(-1)*(b*g j)) n:=j0 fun j _=>by grind
 rw [this,a1a,G7 (-1)];grind
def ad1 (k:Nat) (e0 e:EqI):EqI:=⟨fun l=>e0.co (k+1)*e.co l - e.co (k+1)*e0.co l,e0.co (k+1)*e.rhs - e.co (k+1)*e0.rhs⟩
theorem aP7 {k:Nat} {e0 e:EqI} {u:Nat->Rat}:i9 (fun l=>(((ad1 k e0 e).co l:Int):Rat)*u l) (k+1)=
 ((e0.co (k+1):Int):Rat)*i9 (fun l=>((e.co l:Int):Rat)*u l) (k+1) - ((e.co (k+1):Int):Rat)*i9 (fun l=>((e0.co l:Int):Rat)*u l) (k+1):=by
 rw [← b79]
 refine j0 fun l _=>?_
 unfold ad1
 simp only
 rw [Rat.intCast_sub,Rat.intCast_mul,Rat.intCast_mul];grind
theorem aI9 {k:Nat} {e0 e:EqI}:(((ad1 k e0 e).rhs:Int):Rat)=((e0.co (k+1):Int):Rat)*((e.rhs:Int):Rat) - ((e.co (k+1):Int):Rat)*((e0.rhs:Int):Rat):=by
 unfold ad1
 simp only
 rw [Rat.intCast_sub,Rat.intCast_mul,Rat.intCast_mul]
theorem b7e {k:Nat} {e0 e:EqI} {s:Nat} (h0:(∀ l,l<=k+1->bl (e0.co l)<=s)∧bl e0.rhs<=s) (h:(∀ l,l<=k+1->bl (e.co l)<=s)∧bl e.rhs<=s):(∀ l,l<=k->bl ((ad1 k e0 e).co l)<=2*s+1)∧bl (ad1 k e0 e).rhs<=2*s+1:=by
 have key:∀a b c d:Int,bl a<=s->bl b<=s->bl c<=s->bl d<=s->bl (a*b - c*d)<=2*s+1:=fun a b c d ha hb hc hd=>by
  have h1:=R9 a b
  have h2:=R9 c d
  have h3:=aB2 (a*b) (-(c*d))
  rw [a3L,←Int.sub_eq_add_neg] at h3
  omega
 exact ⟨fun l hl=>key _ _ _ _ (h0.1 _ (by omega)) (h.1 _ (by omega)) (h.1 _ (by omega)) (h0.1 _ (by omega)),key _ _ _ _ (h0.1 _ (by omega)) h.2 (h.1 _ (by omega)) h0.2⟩
theorem a6c:∀(k s:Nat) (E:List EqI) (u:Nat->Rat),(∀ e ∈ E,(∀ l,l<=k->bl (e.co l)<=s)∧bl e.rhs<=s)->(∀ e ∈ E,a86 k e u)->(∀ u',(∀ e ∈ E,a86 k e u')->u' 0=u 0)->rl (u 0)<=2 ^ k*(s+1)
 |0,s,E,u,hb,hu,hq=>by
  by_cases hex:∃e ∈ E,e.co 0≠0
  ·obtain ⟨e,he,hc⟩:=hex
   have h1:((0:Int):Rat)+((e.co 0:Int):Rat)*u 0=((e.rhs:Int):Rat):=hu e he
   have hne:((e.co 0:Int):Rat)≠0:=fun h=>hc (by exact_mod_cast h)
   have h2:u 0=Rat.divInt e.rhs (e.co 0):=by
    rw [Rat.divInt_eq_div,←h1]
    have:((0:Int):Rat)=0:=rfl
    rw [this];grind
   rw [h2]
   have h3:=(hb e he).1 0 (lbR _)
   have h4:=(hb e he).2
   have:=a0m (p:=e.rhs) (q:=e.co 0) hc
   omega
  ·have hz:∀e ∈ E,e.co 0=0:=fun e he=>a0k fun h=>hex ⟨e,he,h⟩
   have:=hq (fun _=>u 0+1) fun e he=>by
    have h1:((0:Int):Rat)+((e.co 0:Int):Rat)*u 0=((e.rhs:Int):Rat):=hu e he
    show ((0:Int):Rat)+((e.co 0:Int):Rat)*(u 0+1)=((e.rhs:Int):Rat)
    rw [← h1,hz e he]
    have:((0:Int):Rat)=0:=rfl
    rw [this];grind
   grind
 |k+1,s,E,u,hb,hu,hq=>by
  have hlast:∀(e:EqI) (v:Nat->Rat),i9 (fun l=>((e.co l:Int):Rat)*v l) (k+1+1)=i9 (fun l=>((e.co l:Int):Rat)*v l) (k+1)+((e.co (k+1):Int):Rat)*v (k+1):=fun e v=>rfl
  by_cases hex:∃e ∈ E,e.co (k+1)≠0
  ·obtain ⟨e0,he0,hc⟩:=hex
   have hne:((e0.co (k+1):Int):Rat)≠0:=fun h=>hc (by exact_mod_cast h)
   have ih:=a6c k (2*s+1) (E.map (ad1 k e0)) u (fun e he=>by
    obtain ⟨e1,he1,rfl⟩:=lby.1 he
    exact b7e (hb e0 he0) (hb e1 he1)) (fun e he=>by
    obtain ⟨e1,he1,rfl⟩:=lby.1 he
    have a1:i9 _ (k+1+1)=_:=hu e0 he0
    have a2:i9 _ (k+1+1)=_:=hu e1 he1
    rw [hlast] at a1 a2
    unfold a86
    rw [aP7,aI9,←a1,←a2];grind) (fun u' hu'=>by
    have hnew:=hq (fun l=>if l=k+1 then (((e0.rhs:Int):Rat) - i9 (fun l=>((e0.co l:Int):Rat)*u' l) (k+1)) / ((e0.co (k+1):Int):Rat) else u' l) fun e he=>by
     have b1:=hu' _ (lby.2 ⟨e,he,rfl⟩)
     unfold a86 at b1 ⊢
     rw [aP7,aI9] at b1
     rw [hlast,j0 (g:=fun l=>((e.co l:Int):Rat)*u' l) fun l hl=>by rw [if_neg (by omega)],if_pos rfl]
     generalize i9 (fun l=>((e.co l:Int):Rat)*u' l) (k+1)=X at *
     generalize i9 (fun l=>((e0.co l:Int):Rat)*u' l) (k+1)=Y at *
     generalize ((e0.co (k+1):Int):Rat)=c at *
     generalize ((e.co (k+1):Int):Rat)=d at *
     generalize ((e.rhs:Int):Rat)=r at *
     generalize ((e0.rhs:Int):Rat)=r0 at *
     have h1:c*(X+d*((r0 - Y) / c))=c*r:=by
      have:c*((r0 - Y) / c)=r0 - Y:=by grind
      have h2:c*(X+d*((r0 - Y) / c))=c*X+d*(c*((r0 - Y) / c)):=by grind
      rw [h2,this];grind
     grind
    rw [if_neg (by omega)] at hnew
    exact hnew)
   have e1:2 ^ (k+1)*(s+1)=2 ^ k*(2*s+1+1):=by rw [Nat.pow_succ,Nat.mul_assoc,show 2*(s+1)=2*s+1+1 by omega]
   rw [e1];exact ih
  ·have hz:∀e ∈ E,e.co (k+1)=0:=fun e he=>a0k fun h=>hex ⟨e,he,h⟩
   have hiff:∀e ∈ E,∀v,a86 (k+1) e v↔a86 k e v:=fun e he v=>by
    unfold a86
    rw [hlast,hz e he]
    have:((0:Int):Rat)=0:=rfl
    rw [this]
    constructor
    ·intro h;rw [← h];grind
    ·intro h;rw [← h];grind
   have ih:=a6c k s E u (fun e he=>⟨fun l hl=>(hb e he).1 l (by omega),(hb e he).2⟩) (fun e he=>(hiff e he u).1 (hu e he)) fun u' hu'=>hq u' fun e he=>(hiff e he u').2 (hu' e he)
   have:2 ^ k<=2 ^ (k+1):=Nat.pow_le_pow_right (by decide) (by omega)
   exact lbS ih (lbU _ this)
structure a7x (m n s:Nat) (D:Fd):Prop where
 o:∀i,i<m->D.O i=n+i
 f:∀j,j<n->D.F j=j
 w:∀i,i<m->∃(q v:Int) (a:Nat->Int),q≠0∧bl q<=s∧bl v<=s∧(∀ j,j<n->bl (a j)<=s)∧((q:Int):Rat)*D.V i=((v:Int):Rat)∧∀j,j<n->((q:Int):Rat)*D.A i j=((a j:Int):Rat)
theorem a5c (x:Int):bl (-x)=bl x:=by unfold bl;rw [Int.natAbs_neg]
theorem b3C (x y:Int):bl (x - y)<=max (bl x) (bl y)+1:=by
 have:=aB2 x (-y)
 rw [a5c] at this
 rw [Int.sub_eq_add_neg];exact this
theorem ar3 {f:Nat->Rat}:∀n:Nat,i9 f (n+1)=f 0+i9 (fun l=>f (l+1)) n
 |0=>by simp only [i9];grind
 |n+1=>by
  have ih:=ar3 (f:=f) n
  have e:i9 f (n+1+1)=i9 f (n+1)+f (n+1):=rfl
  rw [e,ih]
  simp only [i9];grind
def b2t (q0:Int) (b:Nat->Int) (r:Int):EqI:=⟨fun l=>match l with|0=>q0|l+1=>b l,r⟩
theorem aa4 {n:Nat} {q0 r:Int} {b:Nat->Int} {u:Nat->Rat}:a86 n (b2t q0 b r) u↔((q0:Int):Rat)*u 0+i9 (fun l=>((b l:Int):Rat)*u (l+1)) n=((r:Int):Rat):=by
 unfold a86 b2t
 simp only
 rw [ar3]
theorem a3B {n v:Nat} {u:Nat->Rat} (hv:v<n):i9 (fun l=>(((if l=v then (1:Int) else 0):Int):Rat)*u l) n=u v:=by
 rw [E6 hv,A7 fun j hj=>?_]
 ·simp only [if_true]
  have:((1:Int):Rat)=1:=rfl
  rw [this];grind
 ·by_cases h:j=v
  ·simp only [h,if_true]
  ·simp only [if_neg h]
   have:((0:Int):Rat)=0:=rfl
   rw [this];grind
theorem b7C {s:Nat} (hs:1<=s) (b:Prop) [Decidable b]:bl (if b then (1:Int) else 0)<=s:=by
 split
 ·exact lbS (B9 (by decide) (by decide)) hs
 ·exact lbS (B9 (by decide) (by decide)) hs
theorem a4D {m n s:Nat} {D0 D:Fd} (h0:a7x m n s D0) (hs:1<=s) (hP:Y3 m n D) (hI:∀y c,Ids m n D0 y c↔Ids m n D y c) {c:Int} {t:Nat->Int} (hc:c=0∨c=1) (ht:∀j,t j=0∨t j=1)
 {q r:Int} {b:Nat->Int} {φ:Rat} (hq:q≠0) (hqs:bl q<=s) (hr:bl r<=s) (hb:∀l,l<n->bl (b l)<=s)
 (hφ:((q:Int):Rat)*φ=((r:Int):Rat)*((c:Int):Rat)+i9 (fun l=>((b l:Int):Rat)*N4 m n D ((c:Int):Rat) (fun j=>((t j:Int):Rat)) l) n):rl φ<=2 ^ n*(s+2):=by
 obtain ⟨y,hy⟩:∃y,y=N4 m n D ((c:Int):Rat) (fun j=>((t j:Int):Rat)):=⟨_,rfl⟩
 rw [← hy] at hφ
 have hyD:Ids m n D y ((c:Int):Rat):=by rw [hy];exact U3 hP _ _
 have hy0:=(hI y _).2 hyD
 have hyF:∀j,j<n->y (D.F j)=((t j:Int):Rat):=fun j hj=>by rw [hy];exact a0f hP hj
 -- the equations of the columns
 have eqs:∀j,j<n->∃e:EqI,(∀ l,l<=n->bl (e.co l)<=s+1)∧bl e.rhs<=s+1∧
  ∀(y' u':Nat->Rat),(∀ l,l<n->u' (l+1)=y' l)->Ids m n D0 y' ((c:Int):Rat)->(a86 n e u'↔y' (D.F j)=((t j:Int):Rat)):=by
  intro j hj
  have htb:bl (t j)<=1:=by rcases ht j with h|h<;>rw [h]<;>exact B9 (by decide) (by decide)
  by_cases hv:D.F j<n
  ·refine ⟨b2t 0 (fun l=>if l=D.F j then 1 else 0) (t j),fun l hl=>?_,lbS htb (by omega),fun y' u' hu hy'=>?_⟩
   ·cases l with
    |zero=>exact lbS (B9 (x:=0) (by decide) (by decide)) (by omega)
    |succ l=>exact b7C (by omega) _
   ·rw [aa4]
    rw [j0 (g:=fun l=>(((if l=D.F j then (1:Int) else 0):Int):Rat)*y' l) fun l hl=>by rw [hu l hl],a3B hv]
    have:((0:Int):Rat)=0:=rfl
    rw [this]
    constructor<;>intro h<;>grind
  ·have hb1:=hP.fb j hj
   obtain ⟨i,hi⟩:∃i,D.F j=n+i:=⟨D.F j - n,by omega⟩
   have him:i<m:=by omega
   obtain ⟨qi,vi,ai,q1,q2,q3,q4,q5,q6⟩:=h0.w i him
   have hrhs:bl (vi*c - qi*t j)<=s+1:=by
    have h1:bl (vi*c)<=s:=by rcases hc with h|h<;>rw [h]<;>simp<;>first|exact q3|exact lbS (B9 (x:=0) (by decide) (by decide)) hs
    have h2:bl (qi*t j)<=s:=by rcases ht j with h|h<;>rw [h]<;>simp<;>first|exact q2|exact lbS (B9 (x:=0) (by decide) (by decide)) hs
    have:=b3C (vi*c) (qi*t j)
    omega
   refine ⟨b2t 0 ai (vi*c - qi*t j),fun l hl=>?_,hrhs,fun y' u' hu hy'=>?_⟩
   ·cases l with
    |zero=>exact lbS (B9 (x:=0) (by decide) (by decide)) (by omega)
    |succ l=>exact lbS (q4 l (by omega)) (by omega)
   ·rw [aa4,hi]
    have hid:=hy' i him
    rw [h0.o i him] at hid
    have hsum:i9 (fun l=>((ai l:Int):Rat)*u' (l+1)) n=((qi:Int):Rat)*i9 (fun j=>D0.A i j*y' (D0.F j)) n:=by
     rw [← G7]
     refine j0 fun l hl=>?_
     rw [hu l hl,h0.f l hl,←q6 l hl];grind
    rw [hsum]
    have e0:((0:Int):Rat)=0:=rfl
    have e1:((vi*c - qi*t j:Int):Rat)=((vi:Int):Rat)*((c:Int):Rat) - ((qi:Int):Rat)*((t j:Int):Rat):=by push_cast;rfl
    rw [e0,e1,←q5]
    have hqn:((qi:Int):Rat)≠0:=by intro h;exact q1 (by exact_mod_cast h)
    constructor
    ·intro h
     have:((qi:Int):Rat)*(y' (n+i) - ((t j:Int):Rat))=0:=by rw [hid];grind
     have:=(Rat.mul_eq_zero.1 this).resolve_left hqn
     grind
    ·intro h
     rw [← h,hid];grind
 -- the equation of the value
 obtain ⟨E,hE⟩:∃E:Nat->EqI,∀j,(hj:j<n)->E j=Classical.choose (eqs j hj):=⟨fun j=>if hj:j<n then Classical.choose (eqs j hj) else ⟨fun _=>0,0⟩,fun j hj=>by simp [hj]⟩
 have hEs:∀j,j<n->(∀ l,l<=n->bl ((E j).co l)<=s+1)∧bl (E j).rhs<=s+1∧
  ∀(y' u':Nat->Rat),(∀ l,l<n->u' (l+1)=y' l)->Ids m n D0 y' ((c:Int):Rat)->(a86 n (E j) u'↔y' (D.F j)=((t j:Int):Rat)):=fun j hj=>by
  rw [hE j hj];exact Classical.choose_spec (eqs j hj)
 let e0:EqI:=b2t q (fun l=>0 - b l) (r*c)
 have he0:∀(y' u':Nat->Rat),(∀ l,l<n->u' (l+1)=y' l)->(a86 n e0 u'↔((q:Int):Rat)*u' 0=((r:Int):Rat)*((c:Int):Rat)+i9 (fun l=>((b l:Int):Rat)*y' l) n):=by
  intro y' u' hu
  show a86 n (b2t q (fun l=>0 - b l) (r*c)) u'↔_
  rw [aa4]
  have e1:i9 (fun l=>(((0 - b l:Int)):Rat)*u' (l+1)) n=0 - i9 (fun l=>((b l:Int):Rat)*y' l) n:=by
   have:i9 (fun l=>(((0 - b l:Int)):Rat)*u' (l+1)) n=i9 (fun l=>(-1:Rat)*(((b l:Int):Rat)*y' l)) n:=j0 fun l hl=>by
    rw [hu l hl];push_cast;grind
   rw [this,G7];grind
  rw [e1]
  have e2:((r*c:Int):Rat)=((r:Int):Rat)*((c:Int):Rat):=by push_cast;rfl
  rw [e2]
  constructor<;>intro h<;>grind
 let u:Nat->Rat:=fun l=>match l with|0=>φ|l+1=>y l
 have hu:∀l,l<n->u (l+1)=y l:=fun l _=>rfl
 have key:=a6c n (s+1) (e0::(List.range n).map E) u (fun e he=>?_) (fun e he=>?_) (fun u' hu'=>?_)
 ·exact key
 ·rcases lbB.1 he with rfl|he
  ·refine ⟨fun l hl=>?_,?_⟩
   ·cases l with
    |zero=>exact lbS hqs (by omega)
    |succ l=>
     show bl (0 - b l)<=s+1
     have:=hb l (by omega)
     have h1:=b3C 0 (b l)
     have h2:=B9 (x:=0) (by decide) (by decide)
     omega
   ·show bl (r*c)<=s+1
    rcases hc with h|h<;>rw [h]<;>simp
    ·exact lbS (B9 (x:=0) (by decide) (by decide)) (by omega)
    ·omega
  ·obtain ⟨j,hj,rfl⟩:=lby.1 he
   have:=hEs j (lbC.1 hj)
   exact ⟨this.1,this.2.1⟩
 ·rcases lbB.1 he with rfl|he
  ·exact (he0 y u hu).2 hφ
  ·obtain ⟨j,hj,rfl⟩:=lby.1 he
   have hj:=lbC.1 hj
   exact ((hEs j hj).2.2 y u hu hy0).2 (hyF j hj)
 ·let y':Nat->Rat:=fun w=>if w<n then u' (w+1) else ((c:Int):Rat)*D0.V (w - n) - i9 (fun j=>D0.A (w - n) j*u' (j+1)) n
  have huy:∀l,l<n->u' (l+1)=y' l:=fun l hl=>by show _=if l<n then _ else _;rw [if_pos hl]
  have hy':Ids m n D0 y' ((c:Int):Rat):=by
   intro i hi
   rw [h0.o i hi]
   show (if n+i<n then _ else _)=_
   rw [if_neg (by omega),show n+i - n=i by omega]
   congr 1
   refine j0 fun j hj=>?_
   rw [h0.f j hj,huy j hj]
  have hyD':=(hI y' _).1 hy'
  have hF':∀j,j<n->y' (D.F j)=((t j:Int):Rat):=fun j hj=>((hEs j hj).2.2 y' u' huy hy').1 (hu' _ (List.mem_cons_of_mem _ (lby.2 ⟨j,lbC.2 hj,rfl⟩)))
  have same:∀w,w<n+m->y' w=y w:=by
   intro w hw
   rcases hP.all w hw with ⟨i,hi,rfl⟩|⟨j,hj,rfl⟩
   ·rw [hyD' i hi,hyD i hi]
    congr 1
    exact j0 fun j hj=>by rw [hF' j hj,hyF j hj]
   ·rw [hF' j hj,hyF j hj]
  have h1:=(he0 y' u' huy).1 (hu' e0 (List.mem_cons_self))
  have h2:i9 (fun l=>((b l:Int):Rat)*y' l) n=i9 (fun l=>((b l:Int):Rat)*y l) n:=j0 fun l hl=>by rw [same l (by omega)]
  rw [h2,←hφ] at h1
  have hqn:((q:Int):Rat)≠0:=by intro h;exact hq (by exact_mod_cast h)
  show u' 0=φ
  have h3:((q:Int):Rat)*(u' 0 - φ)=0:=by grind
  have:=(Rat.mul_eq_zero.1 h3).resolve_left hqn
  grind
theorem at7 {m n s:Nat} {D0 D:Fd} (h0:a7x m n s D0) (hs:1<=s) (hP:Y3 m n D) (hI:∀y c,Ids m n D0 y c↔Ids m n D y c) {c:Int} {t:Nat->Int} (hc:c=0∨c=1) (ht:∀j,t j=0∨t j=1) {w:Nat} (hw:w<n+m):
 rl (N4 m n D ((c:Int):Rat) (fun j=>((t j:Int):Rat)) w)<=2 ^ n*(s+2):=by
 by_cases hv:w<n
 ·refine a4D h0 hs hP hI hc ht (q:=1) (r:=0) (b:=fun l=>if l=w then 1 else 0) (by decide) (lbS (B9 (by decide) (by decide)) hs) (lbS (B9 (by decide) (by decide)) hs) (fun l hl=>b7C hs _) ?_
  rw [a3B hv]
  have e0:((0:Int):Rat)=0:=rfl
  have e1:((1:Int):Rat)=1:=rfl
  rw [e0,e1];grind
 ·obtain ⟨i,rfl⟩:∃i,w=n+i:=⟨w - n,by omega⟩
  have him:i<m:=by omega
  obtain ⟨qi,vi,ai,q1,q2,q3,q4,q5,q6⟩:=h0.w i him
  have hy0:=(hI _ _).2 (U3 hP ((c:Int):Rat) (fun j=>((t j:Int):Rat))) i him
  rw [h0.o i him] at hy0
  refine a4D h0 (lbS hs (lbR _)) hP hI hc ht (q:=qi) (r:=vi) (b:=fun l=>0 - ai l) q1 q2 q3 (fun l hl=>?_) ?_
  ·rw [show (0:Int) - ai l=-(ai l) by omega,a5c];exact q4 l hl
  ·rw [hy0,←q5]
   have e1:i9 (fun l=>(((0 - ai l:Int)):Rat)*N4 m n D ((c:Int):Rat) (fun j=>((t j:Int):Rat)) l) n=0 - ((qi:Int):Rat)*i9 (fun j=>D0.A i j*N4 m n D ((c:Int):Rat) (fun j=>((t j:Int):Rat)) (D0.F j)) n:=by
    have:i9 (fun l=>(((0 - ai l:Int)):Rat)*N4 m n D ((c:Int):Rat) (fun j=>((t j:Int):Rat)) l) n=i9 (fun l=>(0 - ((qi:Int):Rat))*(D0.A i l*N4 m n D ((c:Int):Rat) (fun j=>((t j:Int):Rat)) (D0.F l))) n:=j0 fun l hl=>by
     rw [h0.f l hl]
     have:=q6 l hl
     have e:((0 - ai l:Int):Rat)=0 - ((ai l:Int):Rat):=by push_cast;rfl
     rw [e,←this];grind
    rw [this,G7];grind
   rw [e1];grind
theorem b77 {m n s:Nat} {D0 D:Fd} (h0:a7x m n s D0) (hs:1<=s) (hP:Y3 m n D) (hI:∀y c,Ids m n D0 y c↔Ids m n D y c) {i:Nat} (hi:i<m):rl (D.V i)<=2 ^ n*(s+2):=by
 have:=at7 h0 hs hP hI (c:=1) (t:=fun _=>0) (.inr rfl) (fun _=>.inl rfl) (hP.ob i hi)
 rw [a3O hP hi] at this
 have e:i9 (fun j=>D.A i j*(((fun _=>(0:Int)) j:Int):Rat)) n=0:=A7 fun j hj=>by
  show D.A i j*((0:Int):Rat)=0
  have e0:((0:Int):Rat)=0:=rfl
  rw [e0];grind
 rw [e] at this
 have e2:((1:Int):Rat)*D.V i - 0=D.V i:=by have e1:((1:Int):Rat)=1:=rfl;rw [e1];grind
 rw [e2] at this
 exact this
theorem b6p {m n s:Nat} {D0 D:Fd} (h0:a7x m n s D0) (hs:1<=s) (hP:Y3 m n D) (hI:∀y c,Ids m n D0 y c↔Ids m n D y c) {i j:Nat} (hi:i<m) (hj:j<n):rl (D.A i j)<=2 ^ n*(s+2):=by
 have:=at7 h0 hs hP hI (c:=0) (t:=fun l=>if l=j then 1 else 0) (.inl rfl) (fun l=>by by_cases h:l=j;exact .inr (if_pos h);exact .inl (if_neg h)) (hP.ob i hi)
 rw [a3O hP hi] at this
 have e:i9 (fun l=>D.A i l*(((if l=j then (1:Int) else 0):Int):Rat)) n=D.A i j:=by
  rw [j0 (g:=fun l=>(((if l=j then (1:Int) else 0):Int):Rat)*D.A i l) fun l hl=>by grind,a3B (u:=fun l=>D.A i l) hj]
 rw [e] at this
 have e2:((0:Int):Rat)*D.V i - D.A i j=-(D.A i j):=by have e1:((0:Int):Rat)=0:=rfl;rw [e1];grind
 rw [e2,a2w] at this
 exact this
theorem b6f {m n s:Nat} {D0 D:Fd} (h0:a7x m n s D0) (hs:1<=s) (hP:Y3 m n D) (hI:∀y c,Ids m n D0 y c↔Ids m n D y c) {g0:Nat->Rat} {z:Rat} (hG:Z9 n D g0 m z) {q:Int} {b:Nat->Int} (hq:q≠0) (hqs:bl q<=s) (hb:∀l,l<n->bl (b l)<=s) (hg:∀l,l<n->((q:Int):Rat)*g0 l=((b l:Int):Rat)) {j:Nat} (hj:j<n):rl (D.G j)<=2 ^ n*(s+2):=by
 have h1:=hG _ _ (U3 hP ((0:Int):Rat) (fun l=>(((if l=j then (1:Int) else 0):Int):Rat)))
 have e:i9 (fun l=>D.G l*N4 m n D ((0:Int):Rat) (fun l=>(((if l=j then (1:Int) else 0):Int):Rat)) (D.F l)) n=D.G j:=by
  rw [j0 (g:=fun l=>(((if l=j then (1:Int) else 0):Int):Rat)*D.G l) fun l hl=>by rw [a0f hP hl];grind,a3B (u:=fun l=>D.G l) hj]
 rw [e] at h1
 refine a4D h0 hs hP hI (c:=0) (t:=fun l=>if l=j then 1 else 0) (.inl rfl) (fun l=>by by_cases h:l=j;exact .inr (if_pos h);exact .inl (if_neg h)) (q:=q) (r:=0) (b:=b) hq hqs (lbS (B9 (by decide) (by decide)) hs) hb ?_
 have e0:((0:Int):Rat)=0:=rfl
 have h2:D.G j=i9 (fun l=>g0 l*N4 m n D ((0:Int):Rat) (fun l=>(((if l=j then (1:Int) else 0):Int):Rat)) l) n:=by
  rw [h1];simp only [e0];grind
 rw [h2,←G7]
 have h3:i9 (fun l=>((b l:Int):Rat)*N4 m n D ((0:Int):Rat) (fun l=>(((if l=j then (1:Int) else 0):Int):Rat)) l) n=i9 (fun l=>((q:Int):Rat)*(g0 l*N4 m n D ((0:Int):Rat) (fun l=>(((if l=j then (1:Int) else 0):Int):Rat)) l)) n:=j0 fun l hl=>by rw [← hg l hl];grind
 rw [h3];grind
def b2Q (m n:Nat) (y:Nat->Rat):Prop:=∀w,w<n+m->0<=y w
theorem b3t {m n:Nat} {D:Fd} {g0:Nat->Rat} {z:Rat} (hP:Y3 m n D) (hG:Z9 n D g0 m z) (hv:∀i,i<m->0<=D.V i) (hg:∀j,j<n->D.G j<=0):
 (∃ y,Ids m n D y 1∧b2Q m n y∧i9 (fun j=>g0 j*y j) n=z∧y=N4 m n D 1 (fun _=>0))∧∀y,Ids m n D y 1->b2Q m n y->i9 (fun j=>g0 j*y j) n<=z:=by
 refine ⟨⟨_,U3 hP 1 (fun _=>0),fun w hw=>?_,?_,rfl⟩,fun y hy hp=>?_⟩
 ·rcases hP.all w hw with ⟨i,hi,rfl⟩|⟨j,hj,rfl⟩
  ·rw [a3O hP hi,A7 fun j hj=>by grind]
   have:=hv i hi;grind
  ·rw [a0f hP hj];grind
 ·rw [hG _ _ (U3 hP 1 (fun _=>0)),A7 fun j hj=>by rw [a0f hP hj];grind];grind
 ·rw [hG _ _ hy]
  have:i9 (fun j=>D.G j*y (D.F j)) n<=0:=a96 fun j hj=>by
   have h1:=hg j hj
   have h2:=hp (D.F j) (hP.fb j hj)
   have:=lb1 (show 0<=-(D.G j) by grind) h2
   grind
  grind
theorem b6w {m n:Nat} {D:Fd} (hP:Y3 m n D) {r:Nat} (hr:r<m) (hv:D.V r<0) (ha:∀j,j<n->0<=D.A r j):∀y,Ids m n D y 1->¬b2Q m n y:=by
 intro y hy hp
 have h1:=hy r hr
 have h2:=hp (D.O r) (hP.ob r hr)
 have h3:0<=i9 (fun j=>D.A r j*y (D.F j)) n:=a1D fun j hj=>lb1 (ha j hj) (hp _ (hP.fb j hj))
 grind
theorem b6A {m n:Nat} {D:Fd} {g0:Nat->Rat} {z:Rat} (hP:Y3 m n D) (hG:Z9 n D g0 m z) {s:Nat} (hs:s<n) (hg:0<D.G s) (ha:∀i,i<m->D.A i s<=0):
 ∃y,Ids m n D y 0∧b2Q m n y∧0<i9 (fun j=>g0 j*y j) n∧y=N4 m n D 0 (fun j=>if j=s then 1 else 0):=by
 have hsum:∀f:Nat->Rat,i9 (fun j=>f j*(if j=s then (1:Rat) else 0)) n=f s:=fun f=>by
  rw [E6 hs,A7 fun j hj=>by by_cases h:j=s;simp only [h,if_true];simp only [if_neg h];grind]
  simp only [if_true];grind
 refine ⟨_,U3 hP 0 _,fun w hw=>?_,?_,rfl⟩
 ·rcases hP.all w hw with ⟨i,hi,rfl⟩|⟨j,hj,rfl⟩
  ·rw [a3O hP hi,hsum]
   have:=ha i hi;grind
  ·rw [a0f hP hj];split<;>grind
 ·rw [hG _ _ (U3 hP 0 _),j0 (g:=fun j=>D.G j*(if j=s then (1:Rat) else 0)) fun j hj=>by rw [a0f hP hj],hsum]
  grind
def Q1 (l:List (Int × Rat)):Nat->Nat->Rat
 |0=>fun _=>0
 |k+1=>match l[k]? with
  |none=>Q1 l k
  |some t=>fun j=>if j=t.1.toNat then t.2 else Q1 l k j
def L3 (l:List (Int × Rat)):Nat->Rat:=Q1 l l.length
theorem U0 {l:List (Int × Rat)} {k:Nat} {t:Int × Rat} (h:l[k]? =some t):Q1 l (k+1)=fun j=>if j=t.1.toNat then t.2 else Q1 l k j:=by rw [Q1,h]
theorem a8f {l:List (Int × Rat)} {v:Nat}:∀k,(∀ i t,i<k->l[i]? =some t->t.1.toNat≠v)->Q1 l k v=0
 |0,_=>rfl
 |k+1,h=>by
  have ih:=a8f (l:=l) (v:=v) k fun i t hi ht=>h i t (by omega) ht
  cases hk:l[k]? with
  |none=>rw [Q1,hk];exact ih
  |some t=>
   rw [U0 hk]
   simp only
   rw [if_neg (fun e=>h k t (by omega) hk e.symm),ih]
theorem L0:∀{last n:Int} {l:List (Int × Rat)},k6 last n l=true->∀t ∈ l,last<t.1∧t.1<n∧t.2≠0
 |_,_,[],_,t,ht=>by cases ht
 |last,n,a::r,h,t,ht=>by
  unfold k6 at h
  simp only [lbN,lbJ] at h
  rcases lbB.1 ht with rfl|ht
  ·exact ⟨h.1.1.1,h.1.1.2,h.1.2⟩
  ·have:=L0 h.2 t ht
   exact ⟨by omega,this.2⟩
theorem a6j:∀{last n:Int} {l:List (Int × Rat)},k6 last n l=true->∀(i j:Nat) (t u:Int × Rat),i<j->l[i]? =some t->l[j]? =some u->t.1<u.1
 |_,_,[],_,i,j,t,u,_,ht,_=>by simp at ht
 |last,n,a::r,h,i,j,t,u,hij,ht,hu=>by
  unfold k6 at h
  simp only [lbN,lbJ] at h
  cases j with
  |zero=>omega
  |succ j=>
   simp only [List.getElem?_cons_succ] at hu
   cases i with
   |zero=>
    simp only [List.getElem?_cons_zero] at ht
    injection ht with ht;subst ht
    exact (L0 h.2 u (lbm hu)).1
   |succ i=>
    simp only [List.getElem?_cons_succ] at ht
    exact a6j h.2 i j t u (by omega) ht hu
theorem a3g {α:Type} {l:List α} {k:Nat} {x:α} (h:l[k]? =some x):l.take (k+1)=l.take k++[x]:=by rw [lbH,h];rfl
theorem aM7 {n:Nat} {l:List (Int × Rat)} (h:k6 (-1) (n:Int) l=true) (z:List Rat):∀k,k<=l.length->m6 (l.take k) z=i9 (fun j=>Q1 l k j*z.getD j 0) n
 |0,_=>by
  rw [List.take_zero,A7 fun j hj=>by show (0:Rat)*_=0;grind]
  rfl
 |k+1,hk=>by
  have ih:=aM7 h z k (by omega)
  obtain ⟨t,ht⟩:∃t,l[k]? =some t:=⟨_,lbf (by omega)⟩
  have hm:=L0 h t (lbm ht)
  have hv:t.1.toNat<n:=by omega
  have h0:Q1 l k t.1.toNat=0:=a8f k fun i u hi hu=>by
   have:=a6j h i k u t hi hu ht
   have h2:=L0 h u (lbm hu)
   omega
  rw [a3g ht,Q5,ih,U0 ht]
  rw [E6 (f:=fun j=>(if j=t.1.toNat then t.2 else Q1 l k j)*z.getD j 0) hv,E6 (f:=fun j=>Q1 l k j*z.getD j 0) hv]
  simp only [if_true,h0]
  rw [j0 (f:=fun j=>if j=t.1.toNat then 0 else (if j=t.1.toNat then t.2 else Q1 l k j)*z.getD j 0) (g:=fun j=>if j=t.1.toNat then 0 else Q1 l k j*z.getD j 0) fun j hj=>by
   by_cases hj:j=t.1.toNat
   ·rw [if_pos hj,if_pos hj]
   ·rw [if_neg hj,if_neg hj,if_neg hj]]
  grind
theorem R4 {n:Nat} {l:List (Int × Rat)} (h:k6 (-1) (n:Int) l=true) (z:List Rat):m6 l z=i9 (fun j=>L3 l j*z.getD j 0) n:=by
 have:=aM7 h z l.length (lbR _)
 rw [List.take_length] at this
 exact this
def M4 (s:k7):Nat->List (Nat × Bool)
 |0=>[]
 |k+1=>match s.rows[k]? with
  |none=>M4 s k
  |some w=>M4 s k++(if w.kind≠0 then [(k,false)] else [])++(if w.kind≠1 then [(k,true)] else [])
def g8 (s:k7):List (Nat × Bool):=M4 s s.rows.length
def Z3 (b:Bool) (x:Rat):Rat:=if b then -x else x
def a3R (s:k7) (f:Nat × Bool):Rat:=match s.rows[f.1]? with
 |none=>0
 |some w=>Z3 f.2 w.value
def a3N (s:k7) (f:Nat × Bool) (j:Nat):Rat:=match s.rows[f.1]? with
 |none=>0
 |some w=>Z3 f.2 (L3 w.terms j)
def k5 (s:k7) (g:List (Int × Rat)):Fd where
 V:=fun i=>a3R s ((g8 s).getD i (0,false))
 A:=fun i j=>a3N s ((g8 s).getD i (0,false)) j
 G:=fun j=>-(L3 g j)
 O:=fun i=>s.n.toNat+i
 F:=fun j=>j
theorem ap9 {s:k7} {f:Nat × Bool}:∀k,f ∈ M4 s k↔f.1<k∧∃w,s.rows[f.1]? =some w∧(f.2=false->w.kind≠0)∧(f.2=true->w.kind≠1)
 |0=>by simp [M4]
 |k+1=>by
  have ih:=ap9 (s:=s) (f:=f) k
  unfold M4
  cases hw:s.rows[k]? with
  |none=>
   simp only
   rw [ih]
   constructor
   ·rintro ⟨h1,h2⟩;exact ⟨by omega,h2⟩
   ·rintro ⟨h1,w,h2,h3⟩
    refine ⟨?_,w,h2,h3⟩
    by_cases he:f.1=k
    ·rw [he,hw] at h2;cases h2
    ·omega
  |some w=>
   simp only
   rw [lbA,lbA,ih]
   obtain ⟨a,b⟩:=f
   simp only
   constructor
   ·rintro ((⟨h1,h2⟩|h)|h)
    ·exact ⟨by omega,h2⟩
    ·split at h
     ·rename_i hk
      simp at h
      obtain ⟨rfl,rfl⟩:=h
      exact ⟨by omega,w,hw,fun _=>hk,fun h=>by cases h⟩
     ·simp at h
    ·split at h
     ·rename_i hk
      simp at h
      obtain ⟨rfl,rfl⟩:=h
      exact ⟨by omega,w,hw,fun h=>(by cases h),fun _=>hk⟩
     ·simp at h
   ·rintro ⟨h1,w',h2,h3,h4⟩
    by_cases he:a=k
    ·subst he
     rw [hw] at h2;injection h2 with h2;subst h2
     cases b with
     |false=>rw [if_pos (h3 rfl)];simp
     |true=>rw [if_pos (h4 rfl)];simp
    ·exact .inl (.inl ⟨by omega,w',h2,h3,h4⟩)
theorem a0o {s:k7} {f:Nat × Bool}:f ∈ g8 s↔∃w,s.rows[f.1]? =some w∧(f.2=false->w.kind≠0)∧(f.2=true->w.kind≠1):=by
 unfold g8
 rw [ap9]
 constructor
 ·rintro ⟨_,h⟩;exact h
 ·rintro ⟨w,h⟩;exact ⟨(lbe.1 h.1).1,w,h⟩
theorem aU3 {s:k7} {g:List (Int × Rat)}:Y3 (g8 s).length s.n.toNat (k5 s g) where
 oi:=fun i i' _ _ h=>by have:s.n.toNat+i=s.n.toNat+i':=h;omega
 fi:=fun j j' _ _ h=>h
 of:=fun i j _ hj h=>by have:s.n.toNat+i=j:=h;omega
 all:=fun w hw=>by
  by_cases h:w<s.n.toNat
  ·exact .inr ⟨w,h,rfl⟩
  ·exact .inl ⟨w - s.n.toNat,by omega,by show s.n.toNat+(w - s.n.toNat)=w;omega⟩
 ob:=fun i hi=>by show s.n.toNat+i<_;omega
 fb:=fun j hj=>by show j<_;omega
theorem aQ2 {s:k7} {g:List (Int × Rat)}:Z9 s.n.toNat (k5 s g) (fun j=>-(L3 g j)) (g8 s).length 0:=by
 intro y c _
 have:c*(0:Rat)=0:=by grind
 rw [this]
 have e:i9 (fun j=>(k5 s g).G j*y ((k5 s g).F j)) s.n.toNat=i9 (fun j=>-(L3 g j)*y j) s.n.toNat:=rfl
 rw [e];grind
def a5N (s:k7) (g:List (Int × Rat)) (z:List Rat) (w:Nat):Rat:=if w<s.n.toNat then z.getD w 0 else (k5 s g).V (w - s.n.toNat) - i9 (fun j=>(k5 s g).A (w - s.n.toNat) j*z.getD j 0) s.n.toNat
theorem b1F {s:k7} {g:List (Int × Rat)} (z:List Rat):Ids (g8 s).length s.n.toNat (k5 s g) (a5N s g z) 1:=by
 intro i hi
 show a5N s g z (s.n.toNat+i)=_
 unfold a5N
 rw [if_neg (by omega),show s.n.toNat+i - s.n.toNat=i by omega]
 have:(1:Rat)*(k5 s g).V i=(k5 s g).V i:=by grind
 rw [this]
 congr 1
 refine j0 fun j hj=>?_
 show _=(k5 s g).A i j*(if j<s.n.toNat then z.getD j 0 else _)
 rw [if_pos hj]
theorem as3 {s:k7} {g:List (Int × Rat)} (hr:m8 s=true) {z:List Rat} {i:Nat} {f:Nat × Bool} {w:H6} (hf:(g8 s)[i]? =some f) (hw:s.rows[f.1]? =some w):a5N s g z (s.n.toNat+i)=Z3 f.2 (w.value - m6 w.terms z):=by
 unfold a5N
 rw [if_neg (by omega),show s.n.toNat+i - s.n.toNat=i by omega]
 have hfd:(g8 s).getD i (0,false)=f:=by rw [lbl,hf];rfl
 show a3R s ((g8 s).getD i (0,false)) - i9 (fun j=>a3N s ((g8 s).getD i (0,false)) j*z.getD j 0) s.n.toNat=_
 rw [hfd]
 have hrow:B5 s.n w=true:=by
  unfold m8 at hr
  simp only [lbN,lbJ,lbw] at hr
  exact hr.2 w (lbm hw)
 have hn:(s.n.toNat:Int)=s.n:=by
  unfold m8 at hr
  simp only [lbN,lbJ] at hr
  omega
 unfold B5 at hrow
 simp only [lbN,lbJ] at hrow
 have hrt:=hrow.1.1
 rw [← hn] at hrt
 have e1:a3R s f=Z3 f.2 w.value:=by unfold a3R;rw [hw]
 have e2:∀j,a3N s f j=Z3 f.2 (L3 w.terms j):=fun j=>by unfold a3N;rw [hw]
 rw [e1,R4 hrt z]
 cases hb:f.2 with
 |false=>
  rw [j0 (g:=fun j=>L3 w.terms j*z.getD j 0) fun j hj=>by rw [e2 j,hb];rfl]
  rfl
 |true=>
  rw [j0 (g:=fun j=>(-1:Rat)*(L3 w.terms j*z.getD j 0)) fun j hj=>by rw [e2 j,hb];show -(L3 w.terms j)*_=_;grind,G7]
  show -w.value - _=-(w.value - _)
  grind
theorem first_holds {s:k7} {g:List (Int × Rat)} (hr:m8 s=true) {z:List Rat} (hl:(z.length:Int)=s.n):i7 s z=true↔b2Q (g8 s).length s.n.toNat (a5N s g z):=by
 have hn:z.length=s.n.toNat:=by omega
 unfold i7
 rw [hr,lbI hl]
 simp only [Bool.true_and,lbN,lbw,lbJ]
 constructor
 ·rintro ⟨h1,h2⟩ w hw
  by_cases hv:w<s.n.toNat
  ·unfold a5N
   rw [if_pos hv,lbl,lbf (by omega)]
   exact h1 _ (lbF _)
  ·obtain ⟨i,rfl⟩:∃i,w=s.n.toNat+i:=⟨w - s.n.toNat,by omega⟩
   have hi:i<(g8 s).length:=by omega
   obtain ⟨f,hf⟩:∃f,(g8 s)[i]? =some f:=⟨_,lbf hi⟩
   obtain ⟨x,hx,hk1,hk2⟩:=a0o.1 (lbm hf)
   rw [as3 hr hf hx]
   have hb:=h2 x (lbm hx)
   unfold U5 at hb
   simp only [Bool.not_eq_true',Bool.or_eq_false_iff,lbP,lbL] at hb
   cases hfb:f.2 with
   |false=>
    have:=hk1 hfb
    show 0<=x.value - m6 x.terms z
    rcases hb.2 with h|h
    ·grind
    ·exact absurd this h
   |true=>
    have:=hk2 hfb
    show 0<=-(x.value - m6 x.terms z)
    rcases hb.1 with h|h
    ·grind
    ·exact absurd this h
 ·intro hp
  refine ⟨fun v hv=>?_,fun x hx=>?_⟩
  ·obtain ⟨j,hj,rfl⟩:=List.getElem_of_mem hv
   have:=hp j (by omega)
   unfold a5N at this
   rw [if_pos (by omega),lbl,lbf hj] at this
   exact this
  ·obtain ⟨k,hk,hkx⟩:=List.getElem_of_mem hx
   have hxk:s.rows[k]? =some x:=by rw [lbf hk,hkx]
   have side:∀b:Bool,(b=false->x.kind≠0)->(b=true->x.kind≠1)->0<=Z3 b (x.value - m6 x.terms z):=by
    intro b h1 h2
    have hm:((k,b):Nat × Bool) ∈ g8 s:=a0o.2 ⟨x,hxk,h1,h2⟩
    obtain ⟨i,hi,hif⟩:=List.getElem_of_mem hm
    have hf:(g8 s)[i]? =some (k,b):=by rw [lbf hi,hif]
    have:=hp (s.n.toNat+i) (by omega)
    rw [as3 hr hf hxk] at this
    exact this
   unfold U5
   simp only [Bool.not_eq_true',Bool.or_eq_false_iff,lbP,lbL]
   constructor
   ·by_cases h:x.kind≠1
    ·left
     have:=side true (fun h=>by cases h) (fun _=>h)
     have h2:0<=-(x.value - m6 x.terms z):=this
     grind
    ·right;exact h
   ·by_cases h:x.kind≠0
    ·left
     have:=side false (fun _=>h) (fun h=>by cases h)
     have h2:0<=x.value - m6 x.terms z:=this
     grind
    ·right;exact h
theorem b0M (x:Rat):((x.den:Int):Rat)*x=((x.num:Int):Rat):=by
 have hq:((x.den:Int):Rat)≠0:=by
  intro h
  have:(x.den:Int)=0:=by exact_mod_cast h
  have:=x.den_pos;omega
 have h1:x=((x.num:Int):Rat) / ((x.den:Int):Rat):=by rw [← Rat.divInt_eq_div,Rat.num_divInt_den]
 have h2:((x.den:Int):Rat)*(((x.num:Int):Rat) / ((x.den:Int):Rat))=((x.num:Int):Rat):=by
  rw [Rat.div_def,Rat.mul_comm,Rat.mul_assoc,Rat.inv_mul_cancel _ hq,Rat.mul_one]
 rw [← h1] at h2
 exact h2
def b1Z (B:Nat) (w:H6):Prop:=(∀ t ∈ w.terms,∃c:Int,t.2=((c:Int):Rat)∧bl c<=1)∧rl w.value<=B
theorem a2N {l:List (Int × Rat)} (h:∀t ∈ l,∃c:Int,t.2=((c:Int):Rat)∧bl c<=1):∀(k j:Nat),∃c:Int,Q1 l k j=((c:Int):Rat)∧bl c<=1
 |0,j=>⟨0,rfl,B9 (by decide) (by decide)⟩
 |k+1,j=>by
  cases hk:l[k]? with
  |none=>rw [Q1,hk];exact a2N h k j
  |some t=>
   rw [U0 hk]
   simp only
   split
   ·exact h t (lbm hk)
   ·exact a2N h k j
theorem b7q {b:Bool} {x:Rat} {c:Int} (h:x=((c:Int):Rat)):∃c':Int,Z3 b x=((c':Int):Rat)∧bl c'=bl c:=by
 cases b with
 |false=>exact ⟨c,h,rfl⟩
 |true=>exact ⟨-c,by show -x=_;rw [h];push_cast;rfl,a5c c⟩
theorem b2u {s:k7} {g:List (Int × Rat)} {B:Nat} (hI:∀w ∈ s.rows,b1Z B w):a7x (g8 s).length s.n.toNat (B+2) (k5 s g) where
 o:=fun i _=>rfl
 f:=fun j _=>rfl
 w:=fun i hi=>by
  obtain ⟨f,hf⟩:∃f,(g8 s)[i]? =some f:=⟨_,lbf hi⟩
  obtain ⟨x,hx,_⟩:=a0o.1 (lbm hf)
  obtain ⟨h1,h2⟩:=hI x (lbm hx)
  have hfd:(g8 s).getD i (0,false)=f:=by rw [lbl,hf];rfl
  have eV:(k5 s g).V i=Z3 f.2 x.value:=by show a3R s ((g8 s).getD i (0,false))=_;rw [hfd];unfold a3R;rw [hx]
  have eA:∀j,(k5 s g).A i j=Z3 f.2 (L3 x.terms j):=fun j=>by show a3N s ((g8 s).getD i (0,false)) j=_;rw [hfd];unfold a3N;rw [hx]
  have hc:∀j,∃c:Int,(k5 s g).A i j=((c:Int):Rat)∧bl c<=1:=fun j=>by
   obtain ⟨c,hc,hb⟩:=a2N h1 x.terms.length j
   obtain ⟨c',hc',hb'⟩:=b7q (b:=f.2) (x:=L3 x.terms j) hc
   exact ⟨c',by rw [eA,hc'],by omega⟩
  refine ⟨(x.value.den:Int),if f.2 then -x.value.num else x.value.num,fun j=>(x.value.den:Int)*Classical.choose (hc j),?_,?_,?_,fun j hj=>?_,?_,fun j hj=>?_⟩
  ·have:=x.value.den_pos;omega
  ·have:=V3 x.value;omega
  ·have:=U8 x.value
   split
   ·rw [a5c];omega
   ·omega
  ·have hb:=(Classical.choose_spec (hc j)).2
   have h3:=R9 (x.value.den:Int) (Classical.choose (hc j))
   have h4:=V3 x.value
   have e5:bl ((x.value.den:Int)*Classical.choose (hc j))<=B+2:=by omega
   exact e5
  ·rw [eV]
   cases hb:f.2 with
   |false=>exact b0M x.value
   |true=>
    show _*(-x.value)=((-x.value.num:Int):Rat)
    have:=b0M x.value
    have e:((-x.value.num:Int):Rat)=-((x.value.num:Int):Rat):=by push_cast;rfl
    rw [e,←this];grind
  ·have hs:=(Classical.choose_spec (hc j)).1
   conv=>lhs;rw [hs]
   push_cast;rfl
instance:Inhabited Fd:=⟨⟨fun _=>0,fun _ _=>0,fun _=>0,fun _=>0,fun _=>0⟩⟩
structure a5V (m n:Nat) (D0:Fd) (g0:Nat->Rat) (D:Fd):Prop where
 p:Y3 m n D
 i:∀y c,Ids m n D0 y c↔Ids m n D y c
 g:∃z,Z9 n D g0 m z
theorem b5o {m n r s:Nat} {D0 D:Fd} {g0:Nat->Rat} (h:a5V m n D0 g0 D) (hs:F7 m n D=.next r s):a5V m n D0 g0 (D.exch r s):=by
 obtain ⟨hr,hsn,hb⟩:=a5b hs
 have hp:=a6P hb
 obtain ⟨z,hz⟩:=h.g
 exact ⟨an2 hr hsn h.p,fun y c=>(h.i y c).trans (aa9 hr hsn hp),_,ap8 hr hsn hp hz⟩
def U9 (m n:Nat) (D0 D:Fd):Prop:=∃k,itS m n k D0=some D
theorem aV0 {m n:Nat} {D0:Fd}:U9 m n D0 D0:=⟨0,rfl⟩
theorem ac7 {m n:Nat} {D0 D D':Fd} (h:U9 m n D0 D) (hn:I9 m n D=some D'):U9 m n D0 D':=by
 obtain ⟨k,hk⟩:=h
 exact ⟨k+1,by rw [a07,hk];exact hn⟩
theorem a1n {m n:Nat} {D0:Fd} {g0:Nat->Rat} (h0:a5V m n D0 g0 D0):∀{k:Nat} {D:Fd},itS m n k D0=some D->a5V m n D0 g0 D
 |0,D,h=>by injection h with h;subst h;exact h0
 |k+1,D,h=>by
  rw [a07] at h
  cases hk:itS m n k D0 with
  |none=>rw [hk] at h;cases h
  |some D1=>
   rw [hk] at h
   have h:I9 m n D1=some D:=h
   obtain ⟨r,s,hs,rfl⟩:=a68 h
   exact b5o (a1n h0 hk) hs
theorem aa5 {m n:Nat} {D0:Fd} {k:Nat} (h:itS m n k D0=none):∀j,itS m n (k+j) D0=none
 |0=>h
 |j+1=>by rw [show k+(j+1)=(k+j)+1 by omega,a07,aa5 h j];rfl
theorem aW8 {m n:Nat} {D0 D D':Fd} (h:U9 m n D0 D) (hn:I9 m n D=none) (h':U9 m n D0 D') (hn':I9 m n D'=none):D=D':=by
 obtain ⟨k,hk⟩:=h
 obtain ⟨l,hl⟩:=h'
 have a1:itS m n (k+1) D0=none:=by rw [a07,hk];exact hn
 have a2:itS m n (l+1) D0=none:=by rw [a07,hl];exact hn'
 have hkl:k=l:=by
  rcases Nat.lt_trichotomy k l with h|h|h
  ·have:=aa5 a1 (l - (k+1))
   rw [show k+1+(l - (k+1))=l by omega,hl] at this;cases this
  ·exact h
  ·have:=aa5 a2 (k - (l+1))
   rw [show l+1+(k - (l+1))=k by omega,hk] at this;cases this
 subst hkl
 rw [hk] at hl;injection hl
theorem b8V {m n:Nat} {D0:Fd} {g0:Nat->Rat} (h0:a5V m n D0 g0 D0):∃D,U9 m n D0 D∧I9 m n D=none:=by
 obtain ⟨k,hk,hmin⟩:=a3f (fun k=>itS m n k D0=none) (b7J h0.p h0.g)
 cases k with
 |zero=>cases hk
 |succ k=>
  cases hk':itS m n k D0 with
  |none=>have:=hmin k hk';omega
  |some D=>
   rw [a07,hk'] at hk
   exact ⟨D,⟨k,hk'⟩,hk⟩
noncomputable def ah7 (m n:Nat) (D0:Fd):Fd:=Classical.epsilon fun D=>U9 m n D0 D∧I9 m n D=none
theorem a4P {m n:Nat} {D0:Fd} {g0:Nat->Rat} (h0:a5V m n D0 g0 D0):U9 m n D0 (ah7 m n D0)∧I9 m n (ah7 m n D0)=none:=Classical.epsilon_spec (b8V h0)
theorem b8L {m n:Nat} {D0 D:Fd} {g0:Nat->Rat} (h0:a5V m n D0 g0 D0) (h:U9 m n D0 D) (hn:I9 m n D=none):D=ah7 m n D0:=aW8 h hn (a4P h0).1 (a4P h0).2
theorem b7s {m n:Nat} {D0:Fd} {g0:Nat->Rat} (h0:a5V m n D0 g0 D0):a5V m n D0 g0 (ah7 m n D0):=by
 obtain ⟨k,hk⟩:=(a4P h0).1
 exact a1n h0 hk
theorem b2d {m n:Nat} {D:Fd} (h:F7 m n D=.best):(∀ i,i<m->0<=D.V i)∧∀j,j<n->D.G j<=0:=by
 unfold F7 at h
 split at h
 ·rename_i h1 h2
  refine ⟨fun i hi=>?_,fun j hj=>?_⟩
  ·have:=a0O h1 i hi;simp at this;grind
  ·have:=a0O h2 j hj;simp at this;grind
 ·unfold a13 at h;split at h<;>cases h
 ·unfold a14 at h;split at h<;>cases h
 ·split at h
  ·unfold a13 at h;split at h<;>cases h
  ·unfold a14 at h;split at h<;>cases h
theorem at8 {n r r':Nat} {D:Fd} (h:a13 n D r=.row r'):r'=r∧∀j,j<n->0<=D.A r j:=by
 unfold a13 at h
 split at h
 ·rename_i h1
  injection h with h
  exact ⟨h.symm,fun j hj=>by have:=a0O h1 j hj;simp at this;grind⟩
 ·cases h
theorem an5 {m s s':Nat} {D:Fd} (h:a14 m D s=.col s'):s'=s∧∀i,i<m->D.A i s<=0:=by
 unfold a14 at h
 split at h
 ·rename_i h1
  injection h with h
  exact ⟨h.symm,fun i hi=>by have:=a0O h1 i hi;simp at this;grind⟩
 ·cases h
theorem aP8 {m n r:Nat} {D:Fd} (h:F7 m n D=.row r):r<m∧D.V r<0∧∀j,j<n->0<=D.A r j:=by
 unfold F7 at h
 split at h
 ·cases h
 ·rename_i r0 h1 h2
  obtain ⟨rfl,h4⟩:=at8 h
  have h3:=J7 h1
  exact ⟨h3.1,by simpa using h3.2.1,h4⟩
 ·unfold a14 at h;split at h<;>cases h
 ·rename_i r0 s0 h1 h2
  split at h
  ·obtain ⟨rfl,h4⟩:=at8 h
   have h3:=J7 h1
   exact ⟨h3.1,by simpa using h3.2.1,h4⟩
  ·unfold a14 at h;split at h<;>cases h
theorem ai2 {m n s:Nat} {D:Fd} (h:F7 m n D=.col s):s<n∧0<D.G s∧∀i,i<m->D.A i s<=0:=by
 unfold F7 at h
 split at h
 ·cases h
 ·unfold a13 at h;split at h<;>cases h
 ·rename_i s0 h1 h2
  obtain ⟨rfl,h4⟩:=an5 h
  have h3:=J7 h2
  exact ⟨h3.1,by simpa using h3.2.1,h4⟩
 ·rename_i r0 s0 h1 h2
  split at h
  ·unfold a13 at h;split at h<;>cases h
  ·obtain ⟨rfl,h4⟩:=an5 h
   have h3:=J7 h2
   exact ⟨h3.1,by simpa using h3.2.1,h4⟩
theorem b4n {m n:Nat} {D:Fd} (h:I9 m n D=none):F7 m n D=.best∨(∃ r,F7 m n D=.row r)∨∃s,F7 m n D=.col s:=by
 unfold I9 at h
 cases hs:F7 m n D with
 |best=>exact .inl rfl
 |row r=>exact .inr (.inl ⟨r,rfl⟩)
 |col s=>exact .inr (.inr ⟨s,rfl⟩)
 |next r s=>rw [hs] at h;cases h
def zOf (n:Nat) (y:Nat->Rat):List Rat:=(List.range n).map y
theorem aA1 {n:Nat} {y:Nat->Rat}:(zOf n y).length=n:=by simp [zOf]
theorem a9U {n:Nat} {y:Nat->Rat} {j:Nat} (h:j<n):(zOf n y).getD j 0=y j:=by simp [zOf,lbl,h]
theorem aA5 {n:Nat} {y:Nat->Rat} {v:Rat} (h:v ∈ zOf n y):∃j,j<n∧v=y j:=by
 obtain ⟨j,hj,rfl⟩:=lby.1 h
 exact ⟨j,lbC.1 hj,rfl⟩
theorem aP5 {n:Nat} {l:List (Int × Rat)} (h:k6 (-1) (n:Int) l=true) (y:Nat->Rat):m6 l (zOf n y)=i9 (fun j=>L3 l j*y j) n:=by
 rw [R4 h];exact j0 fun j hj=>by rw [a9U hj]
theorem a4h {s:k7} (hr:m8 s=true):((s.n.toNat:Nat):Int)=s.n:=by
 unfold m8 at hr
 simp only [lbN,lbJ] at hr
 omega
theorem a1c {s:k7} (hr:m8 s=true) {i:Nat} {w:H6} (hw:s.rows[i]? =some w):k6 (-1) ((s.n.toNat:Nat):Int) w.terms=true∧0<=w.kind∧w.kind<3:=by
 rw [a4h hr]
 unfold m8 at hr
 simp only [lbN,lbw] at hr
 have:=hr.2 w (lbm hw)
 unfold B5 at this
 simp only [lbN,lbJ] at this
 exact ⟨this.1.1,this.1.2,this.2⟩
theorem b6D {s:k7} {g:List (Int × Rat)} (hr:m8 s=true) {y:Nat->Rat} {c:Rat} (hy:Ids (g8 s).length s.n.toNat (k5 s g) y c) {i k:Nat} {b:Bool} {w:H6}
 (hf:(g8 s)[i]? =some (k,b)) (hw:s.rows[k]? =some w):y (s.n.toNat+i)=Z3 b (c*w.value - m6 w.terms (zOf s.n.toNat y)):=by
 have hi:i<(g8 s).length:=(lbe.1 hf).1
 have h1:y (s.n.toNat+i)=c*(k5 s g).V i - i9 (fun j=>(k5 s g).A i j*y j) s.n.toNat:=hy i hi
 have hd:(g8 s).getD i (0,false)=(k,b):=by rw [lbl,hf];rfl
 have hV:(k5 s g).V i=Z3 b w.value:=by show a3R s ((g8 s).getD i (0,false))=_;rw [hd];unfold a3R;simp only [hw]
 have hA:∀j,(k5 s g).A i j=Z3 b (L3 w.terms j):=fun j=>by show a3N s ((g8 s).getD i (0,false)) j=_;rw [hd];unfold a3N;simp only [hw]
 rw [h1,hV,aP5 (a1c hr hw).1]
 cases b with
 |false=>rw [j0 (g:=fun j=>L3 w.terms j*y j) fun j hj=>by rw [hA j];rfl];rfl
 |true=>
  rw [j0 (g:=fun j=>(-1:Rat)*(L3 w.terms j*y j)) fun j hj=>by rw [hA j];show -(L3 w.terms j)*_=_;grind,G7]
  show c*-w.value - _=-(c*w.value - _)
  grind
noncomputable def G4 (s:k7) (g:List (Int × Rat)):Fd:=ah7 (g8 s).length s.n.toNat (k5 s g)
noncomputable def J9 (s:k7) (g:List (Int × Rat)):b4Q:=F7 (g8 s).length s.n.toNat (G4 s g)
theorem a1o {s:k7} {g:List (Int × Rat)}:a5V (g8 s).length s.n.toNat (k5 s g) (fun j=>-(L3 g j)) (k5 s g):=⟨aU3,fun _ _=>Iff.rfl,0,aQ2⟩
theorem W9 {s:k7} {g:List (Int × Rat)}:a5V (g8 s).length s.n.toNat (k5 s g) (fun j=>-(L3 g j)) (G4 s g):=b7s a1o
theorem a82 (s:k7) (g:List (Int × Rat)):J9 s g=.best∨(∃ r,J9 s g=.row r)∨∃c,J9 s g=.col c:=b4n (a4P a1o).2
noncomputable def n7 (s:k7) (g:List (Int × Rat)):List Rat:=zOf s.n.toNat (N4 (g8 s).length s.n.toNat (G4 s g) 1 (fun _=>0))
noncomputable def a8W (s:k7) (g:List (Int × Rat)) (c:Nat):List Rat:=zOf s.n.toNat (N4 (g8 s).length s.n.toNat (G4 s g) 0 (fun j=>if j=c then 1 else 0))
theorem b3R {s:k7} {g:List (Int × Rat)} {y:Nat->Rat} (hy:Ids (g8 s).length s.n.toNat (k5 s g) y 1):∀w,w<s.n.toNat+(g8 s).length->a5N s g (zOf s.n.toNat y) w=y w:=by
 intro w hw
 unfold a5N
 split
 ·rename_i h;exact a9U h
 ·have h1:y (s.n.toNat+(w - s.n.toNat))=1*(k5 s g).V (w - s.n.toNat) - i9 (fun j=>(k5 s g).A (w - s.n.toNat) j*y j) s.n.toNat:=hy (w - s.n.toNat) (by omega)
  rw [show s.n.toNat+(w - s.n.toNat)=w by omega] at h1
  rw [h1,j0 (g:=fun j=>(k5 s g).A (w - s.n.toNat) j*y j) fun j hj=>by rw [a9U hj]]
  grind
theorem b23 {s:k7} {g:List (Int × Rat)} (hr:m8 s=true) {y:Nat->Rat} (hy:Ids (g8 s).length s.n.toNat (k5 s g) y 1) (hp:b2Q (g8 s).length s.n.toNat y):i7 s (zOf s.n.toNat y)=true:=by
 refine (first_holds (g:=g) hr (by rw [aA1];exact a4h hr)).2 fun w hw=>?_
 rw [b3R hy w hw];exact hp w hw
theorem Z2 {s:k7} {z:List Rat} (h:i7 s z=true):m8 s=true∧(z.length:Int)=s.n:=by
 unfold i7 at h
 simp only [lbN,lbJ] at h
 exact ⟨h.1.1.1,h.1.1.2⟩
theorem aF8 {s:k7} {g:List (Int × Rat)} (hg:k6 (-1) ((s.n.toNat:Nat):Int) g=true) (z:List Rat):i9 (fun j=>-(L3 g j)*a5N s g z j) s.n.toNat=-(m6 g z):=by
 rw [R4 hg z,j0 (g:=fun j=>(-1:Rat)*(L3 g j*z.getD j 0)) fun j hj=>by
  have:a5N s g z j=z.getD j 0:=by unfold a5N;rw [if_pos hj]
  rw [this];grind,G7]
 grind
theorem a00 {s:k7} {g:List (Int × Rat)} (hr:m8 s=true) (hg:k6 (-1) ((s.n.toNat:Nat):Int) g=true) (h:J9 s g=.best):
 i7 s (n7 s g)=true∧∀z,i7 s z=true->m6 g (n7 s g)<=m6 g z:=by
 obtain ⟨hv,hgj⟩:=b2d h
 have hi:=W9 (s:=s) (g:=g)
 obtain ⟨v,hv'⟩:=hi.g
 obtain ⟨⟨y,h1,h2,h3,h4⟩,h5⟩:=b3t hi.p hv' hv hgj
 have h1':=(hi.i y 1).2 h1
 have e:n7 s g=zOf s.n.toNat y:=by unfold n7;rw [h4]
 rw [e]
 refine ⟨b23 hr h1' h2,fun z hz=>?_⟩
 have hx:=h5 (a5N s g z) ((hi.i _ 1).1 (b1F z)) ((first_holds hr (Z2 hz).2).1 hz)
 rw [aF8 hg z] at hx
 have h6:i9 (fun j=>-(L3 g j)*y j) s.n.toNat=-(m6 g (zOf s.n.toNat y)):=by
  rw [← aF8 hg]
  exact j0 fun j hj=>by rw [b3R h1' j (by omega)]
 rw [h6] at h3
 grind
theorem a3j {s:k7} {g:List (Int × Rat)} {r:Nat} (h:J9 s g=.row r):∀z,i7 s z=false:=by
 intro z
 cases hz:i7 s z with
 |false=>rfl
 |true=>
  obtain ⟨hr1,hv,ha⟩:=aP8 h
  have hi:=W9 (s:=s) (g:=g)
  exact absurd ((first_holds (Z2 hz).1 (Z2 hz).2).1 hz) (b6w hi.p hr1 hv ha (a5N s g z) ((hi.i _ 1).1 (b1F z)))
structure ba2 (s:k7) (d:List Rat):Prop where
 len:d.length=s.n.toNat
 pos:∀v ∈ d,0<=v
 up:∀(k:Nat) (w:H6),s.rows[k]? =some w->w.kind≠0->m6 w.terms d<=0
 down:∀(k:Nat) (w:H6),s.rows[k]? =some w->w.kind≠1->0<=m6 w.terms d
theorem a9b {s:k7} {g:List (Int × Rat)} {c:Nat} (hr:m8 s=true) (hg:k6 (-1) ((s.n.toNat:Nat):Int) g=true) (h:J9 s g=.col c):ba2 s (a8W s g c)∧m6 g (a8W s g c)<0:=by
 obtain ⟨hc,hgc,ha⟩:=ai2 h
 have hi:=W9 (s:=s) (g:=g)
 obtain ⟨v,hv⟩:=hi.g
 obtain ⟨y,h1,h2,h3,h4⟩:=b6A hi.p hv hc hgc ha
 have h1':=(hi.i y 0).2 h1
 have e:a8W s g c=zOf s.n.toNat y:=by unfold a8W;rw [h4]
 rw [e]
 have side:∀(k:Nat) (w:H6) (b:Bool),s.rows[k]? =some w->(b=false->w.kind≠0)->(b=true->w.kind≠1)->0<=Z3 b (-(m6 w.terms (zOf s.n.toNat y))):=by
  intro k w b hw hb1 hb2
  have hm:((k,b):Nat × Bool) ∈ g8 s:=a0o.2 ⟨w,hw,hb1,hb2⟩
  obtain ⟨i,hil,hif⟩:=List.getElem_of_mem hm
  have hf:(g8 s)[i]? =some (k,b):=by rw [lbf hil,hif]
  have:=b6D hr h1' hf hw
  have hp:=h2 (s.n.toNat+i) (by omega)
  rw [this] at hp
  have e2:(0:Rat)*w.value - m6 w.terms (zOf s.n.toNat y)=-(m6 w.terms (zOf s.n.toNat y)):=by grind
  rw [e2] at hp;exact hp
 refine ⟨⟨aA1,fun v hv=>?_,fun k w hw hk=>?_,fun k w hw hk=>?_⟩,?_⟩
 ·obtain ⟨j,hj,rfl⟩:=aA5 hv
  exact h2 j (by omega)
 ·have:0<=-(m6 w.terms (zOf s.n.toNat y)):=side k w false hw (fun _=>hk) (fun h=>by cases h)
  grind
 ·have:0<=-(-(m6 w.terms (zOf s.n.toNat y))):=side k w true hw (fun h=>by cases h) (fun _=>hk)
  grind
 ·rw [aP5 hg,j0 (g:=fun j=>(-1:Rat)*(-(L3 g j)*y j)) fun j hj=>by grind,G7]
  grind
def a7S (x d:List Rat):List Rat:=List.zipWith (·+·) x d
theorem ac0 {x d:List Rat} {n:Nat} (hx:x.length=n) (hd:d.length=n):(a7S x d).length=n:=by simp [a7S,hx,hd]
theorem at9 {x d:List Rat} {n j:Nat} (hx:x.length=n) (hd:d.length=n) (hj:j<n):(a7S x d).getD j 0=x.getD j 0+d.getD j 0:=by
 simp only [a7S,lbl,List.getElem?_zipWith]
 rw [lbf (show j<x.length by omega),lbf (show j<d.length by omega)]
 rfl
theorem a5e {x d:List Rat} {n:Nat} {l:List (Int × Rat)} (hx:x.length=n) (hd:d.length=n) (h:k6 (-1) (n:Int) l=true):m6 l (a7S x d)=m6 l x+m6 l d:=by
 rw [R4 h,R4 h,R4 h,←a1a]
 exact j0 fun j hj=>by rw [at9 hx hd hj];grind
theorem a1u {s:k7} {z:List Rat} (h:i7 s z=true):∀v ∈ z,0<=v:=by
 unfold i7 at h
 simp only [lbN,lbJ,lbw] at h
 exact h.1.2
theorem b5j {w:H6} {z:List Rat}:U5 w z=true↔(w.kind≠1->w.value<=m6 w.terms z)∧(w.kind≠0->m6 w.terms z<=w.value):=by
 unfold U5
 simp only [Bool.not_eq_true',Bool.or_eq_false_iff,lbP,lbL,lb3]
 constructor
 ·rintro ⟨h1,h2⟩
  exact ⟨fun h=>h1.elim id fun h'=>absurd h h',fun h=>h2.elim id fun h'=>absurd h h'⟩
 ·rintro ⟨h1,h2⟩
  refine ⟨?_,?_⟩
  ·by_cases h:w.kind≠1
   ·exact .inl (h1 h)
   ·exact .inr h
  ·by_cases h:w.kind≠0
   ·exact .inl (h2 h)
   ·exact .inr h
theorem a1p {s:k7} {z:List Rat}:i7 s z=true↔m8 s=true∧(z.length:Int)=s.n∧(∀ v ∈ z,0<=v)∧∀w ∈ s.rows,(w.kind≠1->w.value<=m6 w.terms z)∧(w.kind≠0->m6 w.terms z<=w.value):=by
 unfold i7
 simp only [lbN,lbJ,lbw,b5j]
 constructor
 ·rintro ⟨⟨⟨h1,h2⟩,h3⟩,h4⟩;exact ⟨h1,h2,h3,h4⟩
 ·rintro ⟨h1,h2,h3,h4⟩;exact ⟨⟨⟨h1,h2⟩,h3⟩,h4⟩
theorem ar1 {s:k7} {x d:List Rat} (hx:i7 s x=true) (hd:ba2 s d):i7 s (a7S x d)=true:=by
 obtain ⟨h1,h2,h3,h4⟩:=a1p.1 hx
 have hn:=a4h h1
 have hxl:x.length=s.n.toNat:=by omega
 refine a1p.2 ⟨h1,by rw [ac0 hxl hd.len];exact hn,fun v hv=>?_,fun w hw=>?_⟩
 ·obtain ⟨j,hj,rfl⟩:=List.getElem_of_mem hv
  rw [ac0 hxl hd.len] at hj
  have h5:0<=x[j]:=h3 _ (lbF _)
  have h6:0<=d[j]'(by rw [hd.len];exact hj):=hd.pos _ (lbF _)
  simp only [a7S,List.getElem_zipWith]
  grind
 ·obtain ⟨k,hk,hkw⟩:=List.getElem_of_mem hw
  have hkw':s.rows[k]? =some w:=by rw [lbf hk,hkw]
  have h7:=a5e hxl hd.len (a1c h1 hkw').1
  obtain ⟨h8,h9⟩:=h4 w hw
  rw [h7]
  exact ⟨fun h=>by have:=h8 h;have:=hd.down k w hkw' h;grind,fun h=>by have:=h9 h;have:=hd.up k w hkw' h;grind⟩
theorem aE8 {f:Nat->Nat->Rat} (m:Nat):∀n:Nat,i9 (fun i=>i9 (f i) m) n=i9 (fun j=>i9 (fun i=>f i j) n) m
 |0=>by
  show i9 _ 0=_
  rw [A7 (f:=fun j=>i9 (fun i=>f i j) 0) (n:=m) fun j hj=>by simp only [i9,X6]]
  simp only [i9,X6]
 |n+1=>by
  simp only [i9]
  rw [aE8 m n,←a1a]
theorem b3i {n a:Nat} (ha:a<n) (v:Rat) (c:Nat->Rat):i9 (fun i=>(if a=i then v else 0)*c i) n=v*c a:=by
 rw [E6 ha,A7 fun j hj=>by
  by_cases h:j=a
  ·rw [if_pos h]
  ·rw [if_neg h,if_neg (fun e=>h e.symm)];grind]
 rw [if_pos rfl];grind
def R0 (s:k7) (i:Nat):H6:=s.rows.getD i ⟨[],2,0⟩
theorem aT8 {s:k7} {i:Nat} {w:H6} (h:s.rows[i]? =some w):R0 s i=w:=by unfold R0;rw [lbl,h];rfl
def az2 (s:k7) (k:Nat):Nat × Bool:=(g8 s).getD k (0,false)
def chg (s:k7) (w:Nat) (p:Rat) (i:Nat):Rat:=if s.n.toNat<=w∧(az2 s (w - s.n.toNat)).1=i then -(Z3 (az2 s (w - s.n.toNat)).2 p) else 0
def aW3 (s:k7) (y:Nat->Rat) (l:Nat):Rat:=i9 (fun i=>y i*L3 (R0 s i).terms l) s.rows.length
def b35 (s:k7) (y:Nat->Rat):Rat:=i9 (fun i=>y i*(R0 s i).value) s.rows.length
def b9N (s:k7) (y:Nat->Rat):Prop:=∀(i:Nat) (w:H6),s.rows[i]? =some w->(w.kind=0->0<=y i)∧(w.kind=1->y i<=0)
def a2d (s:k7) (E:Fd) (i:Nat):Rat:=i9 (fun j=>chg s (E.F j) (-(E.G j)) i) s.n.toNat
def a8E (s:k7) (E:Fd) (r i:Nat):Rat:=chg s (E.O r) 1 i+i9 (fun j=>chg s (E.F j) (E.A r j) i) s.n.toNat
theorem b3N {s:k7} {f:Nat->Nat->Rat} {c:Nat->Rat} {n R:Nat}:i9 (fun i=>i9 (fun j=>f j i) n*c i) R=i9 (fun j=>i9 (fun i=>f j i*c i) R) n:=by
 rw [← aE8]
 refine j0 fun i hi=>?_
 rw [j0 (f:=fun j=>f j i*c i) (g:=fun j=>c i*f j i) fun j hj=>by grind,G7];grind
structure ba8 (s:k7) (g:Nat->Rat) (y:Nat->Rat) (v:Rat):Prop where
 sign:b9N s y
 mix:∀l,l<s.n.toNat->aW3 s y l<=g l
 val:b35 s y=v
theorem am4 {s:k7} {g:List (Int × Rat)} {c y:Nat->Rat} {v:Rat} (h:ba8 s c y v) {z:List Rat} (hz:i7 s z=true):v<=i9 (fun l=>c l*z.getD l 0) s.n.toNat:=by
 obtain ⟨hr,hl,hp,hw⟩:=a1p.1 hz
 have hn:=a4h hr
 have h0:∀l,l<s.n.toNat->0<=z.getD l 0:=fun l hl'=>by
  rw [lbl,lbf (by omega)]
  exact hp _ (lbF _)
 have h1:i9 (fun l=>aW3 s y l*z.getD l 0) s.n.toNat<=i9 (fun l=>c l*z.getD l 0) s.n.toNat:=by
  have:=a1D (f:=fun l=>(c l - aW3 s y l)*z.getD l 0) (n:=s.n.toNat) fun l hl'=>lb1 (by have:=h.mix l hl';grind) (h0 l hl')
  rw [j0 (g:=fun l=>c l*z.getD l 0+(-1:Rat)*(aW3 s y l*z.getD l 0)) fun l hl'=>by grind,a1a,G7] at this
  grind
 have h2:i9 (fun l=>aW3 s y l*z.getD l 0) s.n.toNat=i9 (fun i=>y i*m6 (R0 s i).terms z) s.rows.length:=by
  unfold aW3
  rw [b3N (s:=s) (f:=fun i l=>y i*L3 (R0 s i).terms l)]
  refine j0 fun i hi=>?_
  have hx:s.rows[i]? =some (R0 s i):=by unfold R0;rw [lbl,lbf hi];rfl
  rw [R4 (a1c hr hx).1 z,←G7]
  exact j0 fun l hl=>by grind
 have h3:0<=i9 (fun i=>y i*(m6 (R0 s i).terms z - (R0 s i).value)) s.rows.length:=a1D fun i hi=>by
  have hx:s.rows[i]? =some (R0 s i):=by unfold R0;rw [lbl,lbf hi];rfl
  obtain ⟨_,k1,k2⟩:=a1c hr hx
  obtain ⟨s1,s2⟩:=h.sign i _ hx
  obtain ⟨b1,b2⟩:=hw _ (lbm hx)
  by_cases e0:(R0 s i).kind=0
  ·have:=b1 (by omega)
   exact lb1 (s1 e0) (by grind)
  ·by_cases e1:(R0 s i).kind=1
   ·have:=b2 e0
    have:=lb1 (show 0<=-(y i) by have:=s2 e1;grind) (show 0<=-(m6 (R0 s i).terms z - (R0 s i).value) by grind)
    grind
   ·have a1:=b1 e1
    have a2:=b2 e0
    have:m6 (R0 s i).terms z - (R0 s i).value=0:=by grind
    rw [this];grind
 rw [j0 (g:=fun i=>y i*m6 (R0 s i).terms z+(-1:Rat)*(y i*(R0 s i).value)) fun i hi=>by grind,a1a,G7] at h3
 have h4:=h.val
 unfold b35 at h4
 grind
def rF (n:Nat) (g:Nat->Rat):List Fr:=(List.range n).map fun j=>fz (g j)
def mF (m n:Nat) (A:Nat->Nat->Rat):List (List Fr):=(List.range m).map fun i=>rF n (A i)
theorem P4 (n:Nat) (g:Nat->Rat):(rF n g).length=n:=by simp [rF]
theorem b9 (m n:Nat) (A:Nat->Nat->Rat):(mF m n A).length=m:=by simp [mF]
theorem L4 {n:Nat} {g:Nat->Rat} {j:Nat} (h:j<n):(rF n g)[j]? =some (fz (g j)):=by simp [rF,h]
theorem Q6 {m n:Nat} {A:Nat->Nat->Rat} {i:Nat} (h:i<m):(mF m n A)[i]? =some (rF n (A i)):=by simp [mF,h]
theorem a03 {n:Nat} {g:Nat->Rat} {s:Nat} {v:Rat} (h:s<n):(rF n g).set s (fz v)=rF n (fun j=>if j=s then v else g j):=by
 apply List.ext_getElem?
 intro j
 by_cases hj:j<n
 ·rw [L4 hj,lbg,P4]
  by_cases hjm:s=j
  ·subst hjm;simp [h]
  ·rw [if_neg hjm,L4 hj,if_neg (by omega)]
 ·rw [lbd (by simp [P4];omega),lbd (by simp [P4];omega)]
theorem G5 {n:Nat} {g h:Nat->Rat} (e:∀j,j<n->g j=h j):rF n g=rF n h:=lbp fun j hj=>by rw [e j (lbC.1 hj)]
theorem aO5 {m n:Nat} {A B:Nat->Nat->Rat} (e:∀i,i<m->∀j,j<n->A i j=B i j):mF m n A=mF m n B:=lbp fun i hi=>G5 (e i (lbC.1 hi))
theorem b3F {m n:Nat} {A:Nat->Nat->Rat} {r:Nat} {g:Nat->Rat} (h:r<m):(mF m n A).set r (rF n g)=mF m n (fun i=>if i=r then g else A i):=by
 apply List.ext_getElem?
 intro j
 by_cases hj:j<m
 ·rw [Q6 hj,lbg,b9]
  by_cases hjm:r=j
  ·subst hjm;simp [h]
  ·rw [if_neg hjm,Q6 hj,if_neg (by omega)]
 ·rw [lbd (by simp [b9];omega),lbd (by simp [b9];omega)]
abbrev flB (l:List Fr):Blk:={ mode:=.live,elem:=86,size:=4,rows:=toC (l.map q9),box:=false }
theorem O8 {row:List Fr} {i n:Nat} {y:Fr} (h:n=i):C9 (flB row) ((toC (row.map q9)).set n (frC y))=flB (row.set i y):=by
 subst h
 unfold C9
 simp [toC,List.map_set,q9]
def S1 (b m n:Nat) (V:Nat->Rat):List (List C):=(List.range m).map fun i=>frC (fz (V i))++[C.own (i+b) 0 n true]
def a0U (m:Nat) (O:Nat->Nat):List (List T):=(List.range m).map fun i=>[ti (O i)]
def a0e (l:List (Nat × Bool)):List (List T):=l.map fun f=>[ti f.1,tb f.2]
theorem F9 (b m n:Nat) (V:Nat->Rat):(S1 b m n V).length=m:=by simp [S1]
theorem B2 (m:Nat) (O:Nat->Nat):(a0U m O).length=m:=by simp [a0U]
theorem a2F {b m n:Nat} {V:Nat->Rat} {i:Nat} (h:i<m):(S1 b m n V)[i]? =some (frC (fz (V i))++[C.own (i+b) 0 n true]):=by simp [S1,h]
theorem a6z {m:Nat} {O:Nat->Nat} {i:Nat} (h:i<m):(a0U m O)[i]? =some [ti (O i)]:=by simp [a0U,h]
theorem b1T {b m n:Nat} {V:Nat->Rat} {r:Nat} {v:Rat} (h:r<m):(S1 b m n V).set r (frC (fz v)++[C.own (r+b) 0 n true])=S1 b m n (fun i=>if i=r then v else V i):=by
 apply List.ext_getElem?
 intro j
 by_cases hj:j<m
 ·rw [a2F hj,lbg,F9]
  by_cases hjm:r=j
  ·subst hjm;simp [h]
  ·rw [if_neg hjm,a2F hj,if_neg (by omega)]
 ·rw [lbd (by simp [F9];omega),lbd (by simp [F9];omega)]
theorem b5y {m:Nat} {O:Nat->Nat} {r v:Nat} (h:r<m):(a0U m O).set r [ti v]=a0U m (fun i=>if i=r then v else O i):=by
 apply List.ext_getElem?
 intro j
 by_cases hj:j<m
 ·rw [a6z hj,lbg,B2]
  by_cases hjm:r=j
  ·subst hjm;simp [h]
  ·rw [if_neg hjm,a6z hj,if_neg (by omega)]
 ·rw [lbd (by simp [B2];omega),lbd (by simp [B2];omega)]
abbrev b0l (m n k:Nat):Blk:={ mode:=.live,elem:=285,size:=6,rows:=[[C.t (ti n),.own 1 0 m true,.own 2 0 n true,.own 3 0 m true,.own 4 0 n true,.own 5 0 k true]],box:=true }
abbrev a0K (b m n:Nat) (V:Nat->Rat):Blk:={ mode:=.live,elem:=288,size:=5,rows:=S1 b m n V,box:=false }
abbrev Z4 (m:Nat) (O:Nat->Nat):Blk:={ mode:=.live,elem:=3,size:=1,rows:=toC (a0U m O),box:=false }
abbrev a1w (l:List (Nat × Bool)):Blk:={ mode:=.live,elem:=306,size:=2,rows:=toC (a0e l),box:=false }
abbrev a0a (m n:Nat) (fr:List (Nat × Bool)) (D:Fd):Hp:=
 b0l m n fr.length::a0K 6 m n D.V::flB (rF n D.G)::Z4 m D.O::Z4 n D.F::a1w fr::(mF m n D.A).map flB
theorem a2M {m n:Nat} {fr:List (Nat × Bool)} {D:Fd}:(a0a m n fr D).length=m+6:=by simp [b9]
theorem ae2 {b m n N:Nat} {V:Nat->Rat} (h:m+b<=N):okB N (a0K b m n V):=by
 intro r hr c hc
 obtain ⟨i,hi,rfl⟩:=lby.1 hr
 have:=lbC.1 hi
 simp [frC] at hc
 rcases hc with rfl|rfl|rfl|rfl|rfl<;>first|trivial|(simp only;omega)
theorem b1B {m n k N:Nat} (h:6<=N):okB N (b0l m n k):=by
 intro r hr c hc
 simp at hr
 subst hr
 simp at hc
 rcases hc with rfl|rfl|rfl|rfl|rfl|rfl<;>first|trivial|(simp only;omega)
theorem a77 {m n:Nat} {fr:List (Nat × Bool)} {D:Fd}:∀k ∈ a0a m n fr D,okB (m+6) k:=by
 intro k hk
 simp only [lbB] at hk
 rcases hk with rfl|rfl|rfl|rfl|rfl|rfl|hk
 ·exact b1B (by omega)
 ·exact ae2 (lbR _)
 ·exact J1 rfl
 ·exact J1 rfl
 ·exact J1 rfl
 ·exact J1 rfl
 ·obtain ⟨l,_,rfl⟩:=lby.1 hk
  exact J1 rfl
theorem b19 (x:Rat):(fz x).p.sg=0↔x=0:=by
 show x.num.sign=0↔_
 rw [Int.sign_eq_zero_iff_zero,Rat.num_eq_zero]
theorem rl0:rl 0<=1:=by
 have h0:=B9 (x:=0) (by decide) (by decide)
 have h1:=B9 (x:=1) (by decide) (by decide)
 show max (bl 0) (bl 1)<=1
 omega
theorem rl1:rl 1<=1:=by
 have h1:=B9 (x:=1) (by decide) (by decide)
 show max (bl 1) (bl 1)<=1
 omega
theorem b8Z (x y:Rat) (hy:y≠0) (lx:rl x<=60000) (ly:rl y<=60000):e7 Tryz.prog 336 [frS (fz x),frS (fz y)] [] (.tup [frS (fz (x / y)),b7 .i64 0]) []:=by
 have r1:=K9 x (by omega)
 have r2:=K9 y (by omega)
 have x1:=U8 x
 have x2:=V3 x
 have y1:=U8 y
 have y2:=V3 y
 have hn:y.num≠0:=fun h=>hy (Rat.num_eq_zero.1 h)
 have hs:y.num.sign≠0:=fun h=>hn (Int.sign_eq_zero_iff_zero.1 h)
 have hsg:=b19 y
 have l1:=R9 x.num y.den
 have l3:=R9 x.den y.num
 have t1:=a1d x.num y.den (by omega) (by omega)
 have t3:=a1d x.den y.num (by omega) (by omega)
 have n:=av7 (x.num*y.den) (x.den*y.num) (Int.mul_ne_zero (aV6 x) hn) (by omega) (by omega)
 rw [← b6c] at n
 (refine ac Tryz.func336 ?_;(conv=>whnf);repeat (refine zy ?_;conv=>whnf))
 repeat' (first|refine zx ?_|refine qp r1 ?_|refine qp r2 ?_|refine qp t1 ?_|refine qp t3 ?_|refine qp n ?_|refine zd ?_ ?_<;>intro h<;>try omega|fail)<;>conv=>whnf
 all_goals first
  |(exfalso;simp_all;done)
  |exact a2j rfl
theorem a6h (x:Rat) (lx:rl x<=60000):e7 Tryz.prog 291 [frS (fz x)] [] (frS (fz (-x))) []:=by
 have r1:=K9 x (by omega)
 have x1:=U8 x
 have x2:=V3 x
 have n:=a7V x.num (by omega)
 have s:=ab2 x.den (by omega)
 have e:fz (-x)=⟨bz (-x.num),bz x.den⟩:=rfl
 rw [e]
 (refine ac Tryz.func291 ?_;(conv=>whnf);repeat (refine zy ?_;conv=>whnf))
 repeat' (first|refine zx ?_|refine qp r1 ?_|refine qp n ?_|refine qp s ?_|refine zd ?_ ?_<;>intro h<;>try omega|fail)<;>conv=>whnf
 all_goals first
  |(exfalso;simp_all;done)
  |exact v8 ⟨rfl,rfl,rfl,rfl,trivial⟩
theorem ac9 (x:Rat):e7 Tryz.prog 324 [frS (fz x)] [] (i8 (decide (x=0))) []:=by
 have h:=b19 x
 (refine ac Tryz.func324 ?_;(conv=>whnf);repeat (refine zy ?_;conv=>whnf))
 repeat' (first|refine zx ?_|refine zd ?_ ?_<;>intro h<;>try omega|fail)<;>conv=>whnf
 all_goals (refine i3 ?_;simp_all)
theorem aZ3 (a b c:Rat) (la:rl a<=60000) (lb:rl b<=30000) (lc:rl c<=30000):e7 Tryz.prog 325 [frS (fz a),frS (fz b),frS (fz c)] [] (frS (fz (a - b*c))) []:=by
 have z1:=ac9 b
 have z2:=ac9 c
 have m:=aY8 b c (by omega) (by omega)
 have lm:=aZ6 b c
 have s:=aZ1 a (b*c) la (by omega)
 by_cases hb:b=0
 ·have e:a - b*c=a:=by rw [hb];grind
  rw [e]
  (refine ac Tryz.func325 ?_;(conv=>whnf);repeat (refine zy ?_;conv=>whnf))
  repeat' (first|refine zx ?_|refine qp z1 ?_|refine qp z2 ?_|refine qp m ?_|refine qp s ?_|refine zd ?_ ?_<;>intro h<;>try omega|fail)<;>conv=>whnf
  all_goals first
   |(exfalso;simp_all;done)
   |exact v8 ⟨rfl,rfl,rfl,rfl,trivial⟩
 ·by_cases hc:c=0
  ·have e:a - b*c=a:=by rw [hc];grind
   rw [e]
   (refine ac Tryz.func325 ?_;(conv=>whnf);repeat (refine zy ?_;conv=>whnf))
   repeat' (first|refine zx ?_|refine qp z1 ?_|refine qp z2 ?_|refine qp m ?_|refine qp s ?_|refine zd ?_ ?_<;>intro h<;>try omega|fail)<;>conv=>whnf
   all_goals first
    |(exfalso;simp_all;done)
    |exact v8 ⟨rfl,rfl,rfl,rfl,trivial⟩
  ·(refine ac Tryz.func325 ?_;(conv=>whnf);repeat (refine zy ?_;conv=>whnf))
   repeat' (first|refine zx ?_|refine qp z1 ?_|refine qp z2 ?_|refine qp m ?_|refine qp s ?_|refine zd ?_ ?_<;>intro h<;>try omega|fail)<;>conv=>whnf
   all_goals first
    |(exfalso;simp_all;done)
    |exact v8 ⟨rfl,rfl,rfl,rfl,trivial⟩
theorem aS0 (a b:Rat) (hb:b≠0) (la:rl a<=60000) (lb:rl b<=60000):e7 Tryz.prog 323 [frS (fz a),frS (fz b)] [] (frS (fz (a / b))) []:=by
 have d:=b8Z a b hb la lb
 (refine ac Tryz.func323 ?_;(conv=>whnf);repeat (refine zy ?_;conv=>whnf))
 repeat' (first|refine zx ?_|refine qp d ?_|refine zd ?_ ?_<;>intro h<;>try omega|fail)<;>conv=>whnf
 all_goals exact v8 ⟨rfl,rfl,rfl,rfl,trivial⟩
def tkF (a row:Nat->Rat) (s k:Nat):Nat->Rat:=fun j=>if j<k∧j≠s then a j - a s*row j else a j
def tkA (a row:Nat->Rat) (s:Nat):Nat->Rat:=fun j=>if j=s then 0 - a s*row s else a j - a s*row j
def pZ (k n:Nat):List Fr:=(List.range n).map fun j=>if j<k then fz 0 else a2e
theorem aA8 (k n:Nat):(pZ k n).length=n:=by simp [pZ]
theorem aB1 {k n j:Nat} (h:j<n):(pZ k n)[j]? =some (if j<k then fz 0 else a2e):=by simp [pZ,h]
theorem b7Y {k n:Nat} (h:k<n):(pZ k n).set k (fz 0)=pZ (k+1) n:=by
 apply List.ext_getElem?
 intro j
 by_cases hj:j<n
 ·rw [aB1 hj,lbg,aA8]
  by_cases hjk:k=j
  ·subst hjk;simp [h]
  ·rw [if_neg hjk,aB1 hj]
   have:(j<k+1)↔(j<k):=by omega
   simp only [this]
 ·rw [lbd (by simp [aA8];omega),lbd (by simp [aA8];omega)]
theorem b8m (n:Nat):pZ n n=rF n (fun _=>0):=lbp fun j hj=>by rw [if_pos (lbC.1 hj)]
theorem b6G (n:Nat) (hn:n<=1000):e7 Tryz.prog 289 [b7 .i64 n] [] (.c (.own 0 0 n true)) [flB (rF n fun _=>0)]:=by
 have i0:=J4 0 (by decide) (by decide)
 have hnn:(n:Int).toNat=n:=by omega
 (refine ac Tryz.func289 ?_;(conv=>whnf);repeat (refine zy ?_;conv=>whnf))
 repeat' (first|refine zx ?_|refine a7a (by omega) (by omega) (by omega) (by decide) ?_|refine zd ?_ ?_<;>intro h<;>try omega|fail)<;>conv=>whnf
 refine j5 e8 (fun k=>([b7 .i64 n,J,J,S.c (C.own 0 0 n true),J,J,J,J,b7 .i64 n,b7 .i64 k]++Jn 8,[flB (pZ k n)])) n (fun _=>True) [some 0] trivial
  ⟨rfl,rfl,⟨⟨rfl,rfl,rfl,.inr (ag5 ?_ ?_)⟩,trivial⟩,⟨k8 rfl,⟨rfl,rfl,by omega,fun h=>h⟩,g9 (by omega),g9 rfl,trivial⟩⟩ ?_
 ·simp [B6,toC,aA8]
 ·intro i x y hx hy
  simp only [B6,lbk] at hx
  split at hx
  ·rename_i hi
   injection hx with hx
   subst hx
   have hy:(toC ((pZ 0 n).map q9))[i]? =some y:=hy
   rw [toC,lba,lba,aB1 (by omega),if_neg (by omega)] at hy
   injection hy with hy
   subst hy
   exact ⟨rfl,rfl,rfl,rfl,trivial⟩
  ·cases hx
 intro k hk _
 by_cases hlt:k<n
 ·obtain ⟨pf,hpf⟩:∃pf,(pZ k n)[k]? =some pf:=⟨_,aB1 hlt⟩
  have gp:(pZ k n)[0+(k:Int).toNat]? =some pf:=by rw [Nat.zero_add,show (k:Int).toNat=k by omega];exact hpf
  have eM:0+(k:Int).toNat=k:=by omega
  conv=>whnf
  repeat' (first|refine zx ?_|refine qp i0 ?_|refine t6 gp ?_|refine zd ?_ ?_<;>intro h<;>try omega|fail)<;>conv=>whnf
  all_goals first
   |omega
   |(refine ⟨hlt,trivial,[some 0],rfl,rfl,⟨b8 (rows:=(pZ (k+1) n).map q9) rfl rfl rfl ?_ rfl,trivial⟩,⟨rfl,⟨rfl,rfl,rfl,fun h=>h⟩,rfl,g9 (by omega),trivial⟩⟩
     have e:=O8 (row:=pZ k n) (y:=fz 0) eM
     rw [b7Y hlt] at e
     exact congrArg Blk.rows e)
 ·have hke:k=n:=by omega
  subst hke
  conv=>whnf
  repeat' (first|refine zx ?_|refine zd ?_ ?_<;>intro h<;>try omega|fail)<;>conv=>whnf
  all_goals first
   |omega
   |exact ⟨[some 0],rfl,rfl,⟨b8 (rows:=(rF k fun _=>0).map q9) rfl rfl rfl (by rw [← b8m]) rfl,trivial⟩,⟨rfl,rfl,rfl,fun h=>h⟩⟩
theorem b5r (a row:Nat->Rat) (s:Nat):tkF a row s 0=a:=by funext j;unfold tkF;rw [if_neg (by omega)]
theorem b9o (a row:Nat->Rat) (s k:Nat):tkF a row s k k=a k:=by unfold tkF;rw [if_neg (by omega)]
theorem b9X (a row:Nat->Rat) (s k:Nat):tkF a row s k s=a s:=by unfold tkF;rw [if_neg (by omega)]
theorem b3B {a row:Nat->Rat} {s k:Nat} (h:k≠s):(fun j=>if j=k then a k - a s*row k else tkF a row s k j)=tkF a row s (k+1):=by
 funext j
 by_cases hj:j=k
 ·subst hj;rw [if_pos rfl];unfold tkF;rw [if_pos ⟨by omega,h⟩]
 ·rw [if_neg hj];unfold tkF
  have:(j<k∧j≠s)↔(j<k+1∧j≠s):=by omega
  simp only [this]
theorem b5i {a row:Nat->Rat} {s:Nat}:tkF a row s s=tkF a row s (s+1):=by
 funext j;unfold tkF
 have:(j<s∧j≠s)↔(j<s+1∧j≠s):=by omega
 simp only [this]
theorem b68 {a row:Nat->Rat} {s n:Nat}:rF n (fun j=>if j=s then 0 - a s*row s else tkF a row s n j)=rF n (tkA a row s):=G5 fun j hj=>by
 unfold tkA tkF
 by_cases h:j=s
 ·rw [if_pos h,if_pos h]
 ·rw [if_neg h,if_neg h,if_pos ⟨hj,h⟩]
abbrev frX (x:Rat):Blk:={ mode:=.live,elem:=86,size:=4,rows:=[frC (fz x)],box:=true }
theorem b9a {ρ:List (Option Nat)} {H:Hp} (x:Rat):a6f ρ H (frX x) (frX x):=⟨rfl,rfl,rfl,.inl ⟨rfl,j6 [q9 (fz x)]⟩⟩
theorem b8P (n s:Nat) (a row:Nat->Rat) (hn:n<=1000) (hs:s<n) (ha:∀j,j<n->rl (a j)<=30000) (hr:∀j,j<n->rl (row j)<=30000):
 e7 Tryz.prog 326 [.c (.own 0 0 n true),.c (.own 1 0 n true),b7 .i64 s] [flB (rF n a),flB (rF n row)] (.tup []) [flB (rF n (tkA a row s)),flB (rF n row)]:=by
 have i0:=J4 0 (by decide) (by decide)
 have ls:=ha s hs
 have eS:0+(s:Int).toNat=s:=by omega
 have gs:(rF n a)[0+(s:Int).toNat]? =some (fz (a s)):=by rw [eS,L4 hs]
 (refine ac Tryz.func326 ?_;(conv=>whnf);repeat (refine zy ?_;conv=>whnf))
 repeat' (first|refine zx ?_|refine t6 gs ?_|refine zd ?_ ?_<;>intro h<;>try omega|fail)<;>conv=>whnf
 refine j5 e8 (fun k=>([S.c (C.own 0 0 n true),S.c (C.own 1 0 n true),b7 .i64 s,J,J,J,S.c (C.ptr 2 0 0),J,J,J,J,J,J,b7 .i64 n,b7 .i64 k]++Jn 29,[flB (rF n (tkF a row s k)),flB (rF n row),frX (a s)])) n (fun _=>True) [some 0,some 1,some 2] trivial
  ⟨rfl,rfl,⟨b8 (rows:=(rF n a).map q9) rfl rfl rfl rfl (by rw [b5r]),b8 rfl rfl rfl rfl rfl,b9a _,trivial⟩,⟨⟨rfl,rfl,rfl,fun h=>h⟩,⟨rfl,rfl,rfl,fun h=>h⟩,rfl,⟨rfl,rfl,rfl⟩,g9 rfl,g9 rfl,trivial⟩⟩ ?_
 intro k hk _
 by_cases hlt:k<n
 ·have eM:0+(k:Int).toNat=k:=by omega
  have lk:=ha k hlt
  have lr:=hr k hlt
  have g1:(rF n (tkF a row s k))[0+(k:Int).toNat]? =some (fz (a k)):=by rw [eM,L4 hlt,b9o]
  have g2:(rF n row)[0+(k:Int).toNat]? =some (fz (row k)):=by rw [eM,L4 hlt]
  have le:=aZ3 (a k) (a s) (row k) (by omega) (by omega) (by omega)
  by_cases hks:k=s
  ·subst hks
   conv=>whnf
   repeat' (first|refine zx ?_|refine qp le ?_|refine t6 g1 ?_|refine t6 g2 ?_|refine zd ?_ ?_<;>intro h<;>try omega|fail)<;>conv=>whnf
   all_goals first
    |omega
    |exact ⟨hlt,trivial,[some 0,some 1,some 2],rfl,rfl,⟨b8 (rows:=(rF n (tkF a row k k)).map q9) rfl rfl rfl rfl (by rw [b5i]),b8 rfl rfl rfl rfl rfl,b9a _,trivial⟩,⟨⟨rfl,rfl,rfl,fun h=>h⟩,⟨rfl,rfl,rfl,fun h=>h⟩,rfl,⟨rfl,rfl,rfl⟩,g9 rfl,g9 rfl,trivial⟩⟩
  ·conv=>whnf
   repeat' (first|refine zx ?_|refine qp le ?_|refine t6 g1 ?_|refine t6 g2 ?_|refine zd ?_ ?_<;>intro h<;>try omega|fail)<;>conv=>whnf
   all_goals first
    |omega
    |(refine ⟨hlt,trivial,[some 0,some 1,some 2],rfl,rfl,⟨b8 (rows:=(rF n (tkF a row s (k+1))).map q9) rfl rfl rfl ?_ rfl,b8 rfl rfl rfl rfl rfl,b9a _,trivial⟩,⟨⟨rfl,rfl,rfl,fun h=>h⟩,⟨rfl,rfl,rfl,fun h=>h⟩,rfl,⟨rfl,rfl,rfl⟩,g9 rfl,g9 rfl,trivial⟩⟩
      have e:=O8 (row:=rF n (tkF a row s k)) (y:=fz (a k - a s*row k)) eM
      rw [a03 hlt,b3B hks] at e
      exact congrArg Blk.rows e)
 ·have hke:k=n:=by omega
  subst hke
  have g2:(rF k row)[0+(s:Int).toNat]? =some (fz (row s)):=by rw [eS,L4 hs]
  have lr:=hr s hs
  have le:=aZ3 0 (a s) (row s) (by have:=rl0;omega) (by omega) (by omega)
  have le:e7 Tryz.prog 325 [frS (fz ((0:Int):Rat)),frS (fz (a s)),frS (fz (row s))] [] (frS (fz (0 - a s*row s))) []:=le
  conv=>whnf
  have g1:(rF k (tkF a row s k))[0+(s:Int).toNat]? =some (fz (a s)):=by rw [eS,L4 hs,b9X]
  repeat' (first|refine zx ?_|refine qp i0 ?_|refine qp le ?_|refine t6 g2 ?_|refine t6 g1 ?_|refine zd ?_ ?_<;>intro h<;>try omega|fail)<;>conv=>whnf
  all_goals first
   |omega
   |(refine ⟨[some 0,some 1],rfl,rfl,⟨b8 (rows:=(rF k (tkA a row s)).map q9) rfl rfl rfl ?_ rfl,b8 rfl rfl rfl rfl rfl,trivial⟩,trivial⟩
     have e:=O8 (row:=rF k (tkF a row s k)) (y:=fz (0 - a s*row s)) eS
     rw [a03 hs,b68] at e
     exact congrArg Blk.rows e)
def leI:Option Nat->Int
 |none=>-1
 |some a=>a
theorem a5k (f:Nat->Nat) (p:Nat->Bool) (k:Nat):X2 f p (k+1)=match X2 f p k with
 |none=>if p k then some k else none
 |some a=>if p k && decide (f k<f a) then some k else some a:=rfl
theorem G8 {m:Nat} {f:Nat->Nat} {n:Int} {i:Nat} {K:List T->Prop} (e:n=i) (h:i<m) (k:K [ti (f i)]):∃row,0<=n∧(a0U m f)[n.toNat]? =some row∧K row:=by
 subst e;exact ⟨_,by omega,by rw [show (i:Int).toNat=i by omega,a6z h],k⟩
abbrev a6k (m:Nat) (f:Nat->Nat):S:=.c (.t (.sl 1 .any (a0U m f)))
theorem a5i (m:Nat) (hm:m<=100000) (f:Nat->Nat) (p:Nat->Bool) (g:FuncId) (caps:List T) (hg:∀i:Nat,i<m->e7 Tryz.prog g (b7 .i64 i::caps.map fun x=>.c (.t x)) [] (i8 (p i)) []):
 e7 Tryz.prog 292 [a6k m f,.c (.t (.fn (.func g) caps))] [] (b7 .i64 (leI (X2 f p m))) []:=by
 have m1:(a0U m f).length=m:=B2 m f
 (refine ac Tryz.func292 ?_;(conv=>whnf);repeat (refine zy ?_;conv=>whnf))
 repeat' (first|refine zx ?_|refine zd ?_ ?_<;>intro h<;>try omega|fail)<;>conv=>whnf
 refine j5 e8 (fun k=>([a6k m f,S.c (C.t (T.fn (.func g) caps)),J,J,J,b7 .i64 (leI (X2 f p k)),J,J,a6k m f,b7 .i64 m,b7 .i64 k]++Jn 22,[])) m (fun _=>True) [] trivial
  ⟨rfl,rfl,trivial,⟨k8 rfl,k8 rfl,g9 rfl,k8 rfl,g9 (by omega),g9 rfl,trivial⟩⟩ ?_
 intro k hk _
 by_cases hlt:k<m
 ·have hgr:=hg k hlt
  have ha:(b7 .i64 (k:Int)::caps.map fun x=>S.c (C.t x)).all S.isT=true:=by simp [S.isT,C.isT,b7]
  cases hp:p k with
  |false=>
   rw [hp] at hgr
   have e1:leI (X2 f p k)=leI (X2 f p (k+1)):=by
    rw [a5k,hp];cases X2 f p k<;>rfl
   conv=>whnf
   repeat' (first|refine zx ?_|refine .inl ⟨_,_,F5 hgr ha rfl,?_⟩|refine G8 rfl hlt ?_|refine zd ?_ ?_<;>intro h<;>try omega|fail)<;>conv=>whnf
   all_goals first
    |omega
    |exact ⟨hlt,trivial,[],rfl,rfl,trivial,⟨rfl,rfl,g9 e1,rfl,rfl,g9 rfl,trivial⟩⟩
  |true=>
   rw [hp] at hgr
   cases hl:X2 f p k with
   |none=>
    have hle:leI none=-1:=rfl
    have e1:(k:Int)=leI (X2 f p (k+1)):=by rw [a5k,hl,hp];rfl
    conv=>whnf
    repeat' (first|refine zx ?_|refine .inl ⟨_,_,F5 hgr ha rfl,?_⟩|refine G8 rfl hlt ?_|refine zd ?_ ?_<;>intro h<;>try omega|fail)<;>conv=>whnf
    all_goals first
     |omega
     |exact ⟨hlt,trivial,[],rfl,rfl,trivial,⟨rfl,rfl,g9 e1,rfl,rfl,g9 rfl,trivial⟩⟩
   |some b=>
    have hb:=(J7 hl).1
    have hle:leI (some b)=b:=rfl
    by_cases hc:f k<f b
    ·have e1:(k:Int)=leI (X2 f p (k+1)):=by rw [a5k,hl,hp];simp [hc,leI]
     conv=>whnf
     repeat' (first|refine zx ?_|refine .inl ⟨_,_,F5 hgr ha rfl,?_⟩|refine G8 rfl hlt ?_|refine G8 (i:=b) hle (by omega) ?_|refine zd ?_ ?_<;>intro h<;>try omega|fail)<;>conv=>whnf
     all_goals first
      |omega
      |exact ⟨hlt,trivial,[],rfl,rfl,trivial,⟨rfl,rfl,g9 e1,rfl,rfl,g9 rfl,trivial⟩⟩
    ·have e1:leI (some b)=leI (X2 f p (k+1)):=by rw [a5k,hl,hp];simp [hc,leI]
     conv=>whnf
     repeat' (first|refine zx ?_|refine .inl ⟨_,_,F5 hgr ha rfl,?_⟩|refine G8 rfl hlt ?_|refine G8 (i:=b) hle (by omega) ?_|refine zd ?_ ?_<;>intro h<;>try omega|fail)<;>conv=>whnf
     all_goals first
      |omega
      |exact ⟨hlt,trivial,[],rfl,rfl,trivial,⟨rfl,rfl,g9 e1,rfl,rfl,g9 rfl,trivial⟩⟩
 ·have hke:k=m:=by omega
  subst hke
  conv=>whnf
  repeat' (first|refine zx ?_|refine zd ?_ ?_<;>intro h<;>try omega|fail)<;>conv=>whnf
  all_goals first
   |omega
   |exact s9 rfl
def a8B (m n:Nat) (D:Fd):List (List T):=(List.range m).map fun i=>q9 (fz (D.V i))++[T.sl 4 .any ((rF n (D.A i)).map q9)]
def b7p (m n:Nat) (fr:List (Nat × Bool)) (D:Fd):List T:=[ti n,.sl 5 .any (a8B m n D),.sl 4 .any ((rF n D.G).map q9),.sl 1 .any (a0U m D.O),.sl 1 .any (a0U n D.F),.sl 2 .any (a0e fr)]
theorem a89 {m n:Nat} {D:Fd} {i:Nat} (h:i<m):(a8B m n D)[i]? =some (q9 (fz (D.V i))++[T.sl 4 .any ((rF n (D.A i)).map q9)]):=by simp [a8B,h]
theorem a53 (m n:Nat) (D:Fd):(a8B m n D).length=m:=by simp [a8B]
theorem a0R {m n:Nat} {D:Fd} {x:Int} {i:Nat} {K:List T->Prop} (e:x=i) (h:i<m) (k:K (q9 (fz (D.V i))++[T.sl 4 .any ((rF n (D.A i)).map q9)])):∃row,0<=x∧(a8B m n D)[x.toNat]? =some row∧K row:=by
 subst e;exact ⟨_,by omega,by rw [show (i:Int).toNat=i by omega,a89 h],k⟩
theorem a3C {n:Nat} {g:Nat->Rat} {x:Int} {j:Nat} {K:List T->Prop} (e:x=j) (h:j<n) (k:K (q9 (fz (g j)))):∃row,0<=x∧((rF n g).map q9)[x.toNat]? =some row∧K row:=by
 subst e;exact ⟨_,by omega,by rw [show (j:Int).toNat=j by omega,lba,L4 h];rfl,k⟩
theorem b3O (x:Rat):(fz x).p.sg<0↔x<0:=by
 show x.num.sign<0↔_
 rw [ag9];unfold sgR;split<;>(try split)<;>simp_all
theorem b3P (x:Rat):(fz x).p.sg > 0↔0<x:=by
 show x.num.sign > 0↔_
 rw [ag9];unfold sgR
 split
 ·constructor
  ·intro h;omega
  ·intro h;grind
 ·split<;>simp_all
abbrev a62 (m n:Nat) (fr:List (Nat × Bool)) (D:Fd):T:=.ptr [.ptr (b7p m n fr D)]
theorem b31 (m n:Nat) (fr:List (Nat × Bool)) (D:Fd) (i:Nat) (hi:i<m):
 e7 Tryz.prog 293 (b7 .i64 i::[a62 m n fr D].map fun x=>.c (.t x)) [] (i8 (decide (D.V i<0))) []:=by
 have h:=b3O (D.V i)
 (refine ac Tryz.func293 ?_;(conv=>whnf);repeat (refine zy ?_;conv=>whnf))
 repeat' (first|refine zx ?_|refine a0R rfl hi ?_|refine zd ?_ ?_<;>intro h<;>try omega|fail)<;>conv=>whnf
 all_goals (refine i3 ?_;simp_all)
theorem b2B (m n:Nat) (fr:List (Nat × Bool)) (D:Fd) (j:Nat) (hj:j<n):
 e7 Tryz.prog 294 (b7 .i64 j::[a62 m n fr D].map fun x=>.c (.t x)) [] (i8 (decide (0<D.G j))) []:=by
 have h:=b3P (D.G j)
 (refine ac Tryz.func294 ?_;(conv=>whnf);repeat (refine zy ?_;conv=>whnf))
 repeat' (first|refine zx ?_|refine a3C rfl hj ?_|refine zd ?_ ?_<;>intro h<;>try omega|fail)<;>conv=>whnf
 all_goals (refine i3 ?_;simp_all)
theorem ap0 (m n:Nat) (fr:List (Nat × Bool)) (D:Fd) (r j:Nat) (hr:r<m) (hj:j<n):
 e7 Tryz.prog 295 (b7 .i64 j::[a62 m n fr D,T.ptr [ti r]].map fun x=>.c (.t x)) [] (i8 (decide (D.A r j<0))) []:=by
 have h:=b3O (D.A r j)
 (refine ac Tryz.func295 ?_;(conv=>whnf);repeat (refine zy ?_;conv=>whnf))
 repeat' (first|refine zx ?_|refine a0R rfl hr ?_|refine a3C rfl hj ?_|refine zd ?_ ?_<;>intro h<;>try omega|fail)<;>conv=>whnf
 all_goals (refine i3 ?_;simp_all)
theorem ao3 (m n:Nat) (fr:List (Nat × Bool)) (D:Fd) (i s:Nat) (hi:i<m) (hs:s<n):
 e7 Tryz.prog 296 (b7 .i64 i::[a62 m n fr D,T.ptr [ti s]].map fun x=>.c (.t x)) [] (i8 (decide (0<D.A i s))) []:=by
 have h:=b3P (D.A i s)
 (refine ac Tryz.func296 ?_;(conv=>whnf);repeat (refine zy ?_;conv=>whnf))
 repeat' (first|refine zx ?_|refine a0R rfl hi ?_|refine a3C rfl hs ?_|refine zd ?_ ?_<;>intro h<;>try omega|fail)<;>conv=>whnf
 all_goals (refine i3 ?_;simp_all)
theorem b0v {H:Hp} {ia ir n s:Nat} {a row:Nat->Rat} (hne:ia≠ir) (ga:H[ia]? =some (flB (rF n a))) (gr:H[ir]? =some (flB (rF n row))) (hn:n<=1000) (hs:s<n) (ha:∀j,j<n->rl (a j)<=30000) (hr:∀j,j<n->rl (row j)<=30000):
 e7 Tryz.prog 326 [.c (.own ia 0 n true),.c (.own ir 0 n true),b7 .i64 s] H (.tup []) (H.set ia (flB (rF n (tkA a row s)))):=by
 have la:ia<H.length:=(lbe.1 ga).1
 refine R8 [ia,ir] (b8P n s a row hn hs ha hr) rfl rfl rfl (by simp;exact hne) ?_ ?_ (by simp) rfl rfl (by simp) ?_ ?_
 ·intro i k hk
  match i,hk with
  |0,hk=>injection hk with hk;subst hk;exact ⟨rfl,rfl,a3D _,_,ga,H9 rfl⟩
  |1,hk=>injection hk with hk;subst hk;exact ⟨rfl,rfl,a3D _,_,gr,H9 rfl⟩
 ·intro k hk
  simp at hk
  rcases hk with rfl|rfl<;>(intro h;cases h)
 ·intro i k hk
  match i,hk with
  |0,hk=>
   injection hk with hk;subst hk
   refine ⟨_,?_,H9 rfl⟩
   show (H.set ia _)[ia]? =_
   rw [lbg,if_pos rfl,if_pos la]
  |1,hk=>
   injection hk with hk;subst hk
   refine ⟨_,?_,H9 rfl⟩
   show (H.set ia _)[ir]? =_
   rw [lbg,if_neg hne];exact gr
 ·intro j hj hjn
  simp at hjn
  rw [lbg,if_neg (fun h=>hjn.1 h.symm)]
theorem a2i {b m n i r:Nat} {V:Nat->Rat} {K:List C->Prop} (e:i=r) (h:r<m) (k:K (frC (fz (V r))++[C.own (r+b) 0 n true])):∃row,(S1 b m n V)[i]? =some row∧K row:=by
 subst e;exact ⟨_,a2F h,k⟩
theorem b0O {rows:List (List C)} {i:Nat} {x:List C} {K:List C->Prop} (h:i<rows.length) (k:K x):∃row,(rows.set i x)[i]? =some row∧K row:=⟨x,List.getElem?_set_self h,k⟩
theorem b7j {rows:List (List C)} {i j:Nat} {x:List C} {K:List C->Prop} (h:i≠j) (k:∃row,rows[j]? =some row∧K row):∃row,(rows.set i x)[j]? =some row∧K row:=by
 rw [List.getElem?_set_ne h];exact k
def a4n (a:Nat->Rat) (p:Rat) (s k:Nat):Nat->Rat:=fun j=>if j<k∧j≠s then a j / p else a j
def A1 (D:Fd) (r s k:Nat):Nat->Nat->Rat:=fun i=>if i=r then a4n (D.A r) (D.A r s) s k else D.A i
theorem b9U {D:Fd} {r s k:Nat}:A1 D r s k r k=D.A r k:=by unfold A1 a4n;rw [if_pos rfl,if_neg (by omega)]
theorem bc5 {D:Fd} {r s k:Nat}:A1 D r s k r s=D.A r s:=by unfold A1 a4n;rw [if_pos rfl,if_neg (by omega)]
theorem b7o {D:Fd} {r s k:Nat} (h:k≠s):(fun i=>if i=r then (fun j=>if j=k then D.A r k / D.A r s else A1 D r s k r j) else A1 D r s k i)=A1 D r s (k+1):=by
 funext i j
 by_cases hi:i=r
 ·subst hi
  simp only [if_true]
  unfold A1 a4n
  simp only [if_true]
  by_cases hj:j=k
  ·subst hj;rw [if_pos rfl,if_pos ⟨by omega,h⟩]
  ·rw [if_neg hj]
   have:(j<k∧j≠s)↔(j<k+1∧j≠s):=by omega
   simp only [this]
 ·rw [if_neg hi];unfold A1;rw [if_neg hi,if_neg hi]
theorem b5W {D:Fd} {r s:Nat}:A1 D r s s=A1 D r s (s+1):=by
 funext i j;unfold A1 a4n
 have:(j<s∧j≠s)↔(j<s+1∧j≠s):=by omega
 split
 ·simp only [this]
 ·rfl
theorem b6t {D:Fd} {r s k:Nat} (h:D.A r k=0):A1 D r s k=A1 D r s (k+1):=by
 funext i j;unfold A1 a4n
 split
 ·show (if j<k∧j≠s then D.A r j / D.A r s else D.A r j)=if j<k+1∧j≠s then D.A r j / D.A r s else D.A r j
  by_cases hj:j=k
  ·subst hj
   rw [if_neg (show ¬(j<j∧j≠s) by omega)]
   split
   ·rw [h];grind
   ·rfl
  ·have:(j<k∧j≠s)↔(j<k+1∧j≠s):=by omega
   simp only [this]
 ·rfl
theorem b1v {m n r:Nat} {A B:Nat->Nat->Rat} {g:Nat->Rat} (h:r<m) (e:(fun i=>if i=r then g else A i)=B):(mF m n A).set r (rF n g)=mF m n B:=by rw [b3F h,e]
def V1 (D:Fd) (r s:Nat):Nat->Rat:=fun i=>if i=r then D.V r / D.A r s else D.V i
def V2 (D:Fd) (r s k:Nat):Nat->Rat:=fun i=>if i=r then D.V r / D.A r s else if i<k then D.V i - D.A i s*(D.V r / D.A r s) else D.V i
def A2 (D:Fd) (r s k:Nat):Nat->Nat->Rat:=fun i=>if i=r then D.pRow r s else if i<k then tkA (D.A i) (D.pRow r s) s else D.A i
theorem aH8 {a row:Nat->Rat} {s:Nat} (h:a s=0):tkA a row s=a:=by
 funext j;unfold tkA
 by_cases hj:j=s
 ·rw [if_pos hj,hj,h];grind
 ·rw [if_neg hj,h];grind
theorem a11 {m i r:Nat} {f:Nat->Nat} {K:List C->Prop} (e:i=r) (h:r<m) (k:K [C.t (ti (f r))]):∃row,(toC (a0U m f))[i]? =some row∧K row:=by
 subst e;exact ⟨_,by simp [toC,a6z h],k⟩
theorem M3 {α β:Type} {f:β->α} {M:List β} {T:List α} {i:Nat} {x:β} (h:M[i]? =some x):(M.map f++T)[i]? =some (f x):=by
 rw [lbb (by simpa using (lbe.1 h).1),lba,h];rfl
theorem b3I {α β:Type} {f:β->α} {M:List β} {T:List α} {i:Nat} {x:β} (h:i<M.length):(M.map f++T).set i (f x)=(M.set i x).map f++T:=by
 rw [List.set_append_left _ _ (by simpa using h),←List.map_set]
theorem b5Y {m n:Nat} {D:Fd} {r s:Nat} (hr:r<m) (hs:s<n):(mF m n (A1 D r s n)).set r ((rF n (A1 D r s n r)).set s (fz (((1:Int):Rat) / D.A r s)))=mF m n (A2 D r s 0):=by
 rw [a03 hs,b3F hr]
 refine aO5 fun i hi j hj=>?_
 unfold A2
 by_cases hir:i=r
 ·rw [if_pos hir,if_pos hir]
  unfold Fd.pRow A1 a4n
  rw [if_pos rfl]
  by_cases hjs:j=s
  ·rw [if_pos hjs,if_pos hjs];rfl
  ·rw [if_neg hjs,if_neg hjs,if_pos ⟨hj,hjs⟩]
 ·rw [if_neg hir,if_neg hir,if_neg (by omega)];unfold A1;rw [if_neg hir]
theorem b6i {D:Fd} {r s:Nat}:V2 D r s 0=V1 D r s:=by
 funext i;unfold V2 V1;split
 ·rfl
 ·rw [if_neg (by omega)]
theorem b9P {D:Fd} {r s k:Nat}:V2 D r s k r=D.V r / D.A r s:=by unfold V2;rw [if_pos rfl]
theorem b5d {D:Fd} {r s k:Nat} (h:k≠r):V2 D r s k k=D.V k:=by unfold V2;rw [if_neg h,if_neg (by omega)]
theorem bb6 {D:Fd} {r s k:Nat}:A2 D r s k r=D.pRow r s:=by unfold A2;rw [if_pos rfl]
theorem b7B {D:Fd} {r s k:Nat} (h:k≠r):A2 D r s k k=D.A k:=by unfold A2;rw [if_neg h,if_neg (by omega)]
theorem b1h {D:Fd} {r s k:Nat} (h:k≠r):(fun i=>if i=k then D.V k - D.A k s*(D.V r / D.A r s) else V2 D r s k i)=V2 D r s (k+1):=by
 funext i
 by_cases hi:i=k
 ·subst hi;rw [if_pos rfl];unfold V2;rw [if_neg h,if_pos (by omega)]
 ·rw [if_neg hi];unfold V2
  have:(i<k)↔(i<k+1):=by omega
  simp only [this]
theorem b0K {D:Fd} {r s k:Nat} (h:k≠r):(fun i=>if i=k then tkA (D.A k) (D.pRow r s) s else A2 D r s k i)=A2 D r s (k+1):=by
 funext i
 by_cases hi:i=k
 ·subst hi;rw [if_pos rfl];unfold A2;rw [if_neg h,if_pos (by omega)]
 ·rw [if_neg hi];unfold A2
  have:(i<k)↔(i<k+1):=by omega
  simp only [this]
theorem b65 {D:Fd} {r s:Nat}:V2 D r s r=V2 D r s (r+1):=by
 funext i;unfold V2
 by_cases h:i=r
 ·rw [if_pos h,if_pos h]
 ·have:(i<r)↔(i<r+1):=by omega
  simp only [this]
theorem b73 {D:Fd} {r s:Nat}:A2 D r s r=A2 D r s (r+1):=by
 funext i;unfold A2
 by_cases h:i=r
 ·rw [if_pos h,if_pos h]
 ·have:(i<r)↔(i<r+1):=by omega
  simp only [this]
theorem b6g {D:Fd} {r s k:Nat} (h:k≠r) (hz:D.A k s=0):V2 D r s k=V2 D r s (k+1):=by
 rw [← b1h h,hz];funext i
 by_cases hi:i=k
 ·subst hi;rw [if_pos rfl,b5d h];grind
 ·rw [if_neg hi]
theorem b7w {D:Fd} {r s k:Nat} (h:k≠r) (hz:D.A k s=0):A2 D r s k=A2 D r s (k+1):=by
 rw [← b0K h,aH8 hz];funext i
 by_cases hi:i=k
 ·subst hi;rw [if_pos rfl,b7B h]
 ·rw [if_neg hi]
theorem b8t {D:Fd} {r s m i:Nat} (h:i<m):V2 D r s m i=(D.exch r s).V i:=by
 unfold V2 Fd.exch;simp only
 split
 ·rfl
 ·first|rfl|rw [if_pos h]
theorem b88 {D:Fd} {r s m i j:Nat} (h:i<m):A2 D r s m i j=(D.exch r s).A i j:=by
 unfold A2 Fd.exch;simp only
 split
 ·rfl
 ·first|rfl|(rw [if_pos h];rfl)
abbrev L5 (m n:Nat) (fr:List (Nat × Bool)) (V:Nat->Rat) (G:Nat->Rat) (O F:Nat->Nat) (A:Nat->Nat->Rat) (T:Hp):Hp:=
 b0l m n fr.length::a0K 6 m n V::flB (rF n G)::Z4 m O::Z4 n F::a1w fr::((mF m n A).map flB++T)
structure BdD (m n B:Nat) (D:Fd):Prop where
 v:∀i,i<m->rl (D.V i)<=B
 a:∀i,i<m->∀j,j<n->rl (D.A i j)<=B
 g:∀j,j<n->rl (D.G j)<=B
theorem b01 {b m n r i:Nat} {V:Nat->Rat} {x:List C} {v:Rat} (e:i=r) (h:r<m) (hx:x=frC (fz v)++[C.own (r+b) 0 n true]):(S1 b m n V).set i x=S1 b m n (fun i=>if i=r then v else V i):=by
 subst e hx;exact b1T h
theorem aP4 {m n:Nat} {fr:List (Nat × Bool)} {V G:Nat->Rat} {O F:Nat->Nat} {A:Nat->Nat->Rat} {T T':Hp}:L5 m n fr V G O F A (T++T')=L5 m n fr V G O F A T++T':=by
 show b0l m n fr.length::a0K 6 m n V::flB (rF n G)::Z4 m O::Z4 n F::a1w fr::((mF m n A).map flB++(T++T'))=b0l m n fr.length::a0K 6 m n V::flB (rF n G)::Z4 m O::Z4 n F::a1w fr::(((mF m n A).map flB++T)++T')
 rw [lbE]
theorem a6F {m n:Nat} {fr:List (Nat × Bool)} {V G:Nat->Rat} {O F:Nat->Nat} {A:Nat->Nat->Rat} {T:Hp}:(L5 m n fr V G O F A T).length=m+6+T.length:=by simp [b9];omega
theorem b1o {m n N:Nat} {fr:List (Nat × Bool)} {V G:Nat->Rat} {O F:Nat->Nat} {A:Nat->Nat->Rat} {T:Hp} (h:m+6<=N) (hT:∀k ∈ T,okB N k):∀k ∈ L5 m n fr V G O F A T,okB N k:=by
 intro k hk
 simp only [lbB,lbA] at hk
 rcases hk with rfl|rfl|rfl|rfl|rfl|rfl|hk|hk
 ·exact b1B (by omega)
 ·exact ae2 h
 ·exact J1 rfl
 ·exact J1 rfl
 ·exact J1 rfl
 ·exact J1 rfl
 ·obtain ⟨l,_,rfl⟩:=lby.1 hk
  exact J1 rfl
 ·exact hT k hk
theorem V4 {n0 N m n:Nat} {fr:List (Nat × Bool)} {V G:Nat->Rat} {O F:Nat->Nat} {A:Nat->Nat->Rat} {T T' H:Hp} {env env':Env} (hH:H=L5 m n fr V G O F A (T++T')) (hN:m+6+T.length=N) (h0:n0<=N) (hT:∀k ∈ T,okB N k)
 (hE:a0Z (idR N) H env env'):Ent n0 (idR N) env H env' (L5 m n fr V G O F A T):=by
 refine a7W (by rw [a6F];exact hN) h0 (b1o (by omega) hT) (fun i hi=>?_) hE
 rw [hH,aP4,lbb (by rw [a6F];omega)]
theorem a9W {n0 N m n:Nat} {fr:List (Nat × Bool)} {V G:Nat->Rat} {O F:Nat->Nat} {A:Nat->Nat->Rat} {T H:Hp} {r s:S} (hH:H=L5 m n fr V G O F A T) (hN:m+6=N) (h0:n0<=N) (hE:a90 (idR N) H r s):
 Fin n0 r H s (L5 m n fr V G O F A []):=by
 refine at5 (by rw [a6F];exact hN) h0 (b1o (by omega) (by simp)) (fun i hi=>?_) hE
 have e:L5 m n fr V G O F A T=L5 m n fr V G O F A []++T:=aP4 (T:=[]) (T':=T)
 rw [hH,e,lbb (by rw [a6F];simp;omega)]
theorem a12 {b0 b1 b2 b3 b4 b5 c0 c1 c2 c3 c4 c5:Blk} {L L':Hp} (h0:b0=c0) (h1:b1=c1) (h2:b2=c2) (h3:b3=c3) (h4:b4=c4) (h5:b5=c5) (h6:L=L'):b0::b1::b2::b3::b4::b5::L=c0::c1::c2::c3::c4::c5::L':=by
 subst h0 h1 h2 h3 h4 h5 h6;rfl
theorem am9 {b m n r i:Nat} {V V':Nat->Rat} {x:List C} {v:Rat} (e:i=r) (h:r<m) (hx:x=frC (fz v)++[C.own (r+b) 0 n true]) (hV:(fun i=>if i=r then v else V i)=V'):C9 (a0K b m n V) ((a0K b m n V).rows.set i x)=a0K b m n V':=by
 have:=b01 (V:=V) e h hx
 subst hV
 unfold C9
 simp only [this]
theorem a75 {m r i v:Nat} {O:Nat->Nat} (e:i=r) (h:r<m):C9 (Z4 m O) ((Z4 m O).rows.set i [C.t (ti v)])=Z4 m (fun i=>if i=r then v else O i):=by
 subst e
 have:(toC (a0U m O)).set i [C.t (ti v)]=toC (a0U m (fun j=>if j=i then v else O j)):=by
  rw [← b5y h];simp [toC,List.map_set]
 unfold C9
 simp only [this]
theorem aB5 {N:Nat} {x:Rat}:okB N (frX x):=J1 (rows:=[q9 (fz x)]) rfl
theorem aZ0 (m n:Nat) (fr:List (Nat × Bool)) (D:Fd) (r s:Nat) (hm:m<=100000) (hn:n<=1000) (hr:r<m) (hs:s<n) (hp:D.A r s≠0) (hB:BdD m n 30000 D) (hB':BdD m n 30000 (D.exch r s)):
 e7 Tryz.prog 297 [.c (.ptr 0 0 0),b7 .i64 r,b7 .i64 s] (a0a m n fr D) (.tup []) (a0a m n fr (D.exch r s)):=by
 have eR:0+(r:Int).toNat=r:=by omega
 have eS:0+(s:Int).toNat=s:=by omega
 have gA:(mF m n D.A)[r]? =some (rF n (D.A r)):=Q6 hr
 have gs:(rF n (D.A r))[0+(s:Int).toNat]? =some (fz (D.A r s)):=by rw [eS,L4 hs]
 have bp:=hB.a r hr s hs
 have ov:=aS0 (D.V r) (D.A r s) hp (by have:=hB.v r hr;omega) (by omega)
 (refine ac Tryz.func297 ?_;(conv=>whnf);repeat (refine zy ?_;conv=>whnf))
 repeat' (first|refine zx ?_|refine qp ov ?_|refine qp F9 ?_|refine a4E (b9 _ _ _) ?_|refine I7 ?_|refine a3c ?_|refine a2i eR hr ?_|refine aI1 gA ?_|refine Y7 gA ?_|refine G6 (b9 _ _ _) ?_|refine a7H (b9 _ _ _) ?_|refine t6 gs ?_|refine b0O (by show _<(S1 _ _ _ _).length;rw [F9];omega) ?_|refine zd ?_ ?_<;>intro h<;>try omega|fail)<;>conv=>whnf
 refine j5 e8 (fun k=>([S.c (C.ptr 0 0 0),b7 .i64 r,b7 .i64 s,J,J,J,S.c (C.ptr 1 r 0),S.c (C.ptr (m+6) 0 0)]++Jn 29++[b7 .i64 n,b7 .i64 k]++Jn 144,L5 m n fr (V1 D r s) D.G D.O D.F (A1 D r s k) [frX (D.A r s)])) n (fun _=>True) (idR (m+7)) trivial ?_ ?_
 ·refine V4 (T':=[]) ?_ rfl (by simp [b9]) (by intro k hk;simp at hk;subst hk;exact aB5) ?_
  ·refine a12 rfl (am9 eR hr rfl rfl) rfl rfl rfl rfl ?_
   have:A1 D r s 0=D.A:=by funext i j;unfold A1 a4n;split<;>simp_all
   rw [this];rfl
  ·exact ⟨⟨p9 (by omega),rfl,rfl⟩,rfl,rfl,⟨p9 (by omega),eR,rfl⟩,⟨p9 (by omega),rfl,rfl⟩,g9 (by omega),g9 rfl,trivial⟩
 intro k hk _
 have gA1:(mF m n (A1 D r s k))[r]? =some (rF n (A1 D r s k r)):=Q6 hr
 have lA:r<(mF m n (A1 D r s k)).length:=by rw [b9];exact hr
 by_cases hlt:k<n
 ·have eK:0+(k:Int).toNat=k:=by omega
  have gk:(rF n (A1 D r s k r))[0+(k:Int).toNat]? =some (fz (D.A r k)):=by rw [eK,L4 hlt,b9U]
  have bk:=hB.a r hr k hlt
  have ze:=ac9 (D.A r k)
  have ovk:=aS0 (D.A r k) (D.A r s) hp (by omega) (by omega)
  by_cases hks:k=s
  ·subst hks
   conv=>whnf
   repeat' (first|refine zx ?_|refine qp ze ?_|refine qp ovk ?_|refine m9 (b9 _ _ _) ?_|refine I7 ?_|refine l9 ?_|refine a2i rfl hr ?_|refine Y7 gA1 ?_|refine G6 (b9 _ _ _) ?_|refine t6 gk ?_|refine zd ?_ ?_<;>intro h<;>try omega|fail)<;>conv=>whnf
   all_goals first
    |omega
    |exact ⟨hlt,trivial,idR (m+7),V4 (T':=[]) (a12 rfl rfl rfl rfl rfl rfl (by rw [← b5W];rfl)) rfl (by simp [b9]) (by intro k hk;simp at hk;subst hk;exact aB5) ⟨⟨p9 (by omega),rfl,rfl⟩,rfl,rfl,⟨p9 (by omega),rfl,rfl⟩,⟨p9 (by omega),rfl,rfl⟩,rfl,g9 (by omega),trivial⟩⟩
  ·by_cases hz:D.A r k=0
   ·rw [lbI hz] at ze
    conv=>whnf
    repeat' (first|refine zx ?_|refine qp ze ?_|refine qp ovk ?_|refine m9 (b9 _ _ _) ?_|refine I7 ?_|refine l9 ?_|refine a2i rfl hr ?_|refine Y7 gA1 ?_|refine G6 (b9 _ _ _) ?_|refine t6 gk ?_|refine zd ?_ ?_<;>intro h<;>try omega|fail)<;>conv=>whnf
    all_goals first
     |omega
     |exact ⟨hlt,trivial,idR (m+7),V4 (T':=[]) (a12 rfl rfl rfl rfl rfl rfl (by rw [← b6t hz];rfl)) rfl (by simp [b9]) (by intro k hk;simp at hk;subst hk;exact aB5) ⟨⟨p9 (by omega),rfl,rfl⟩,rfl,rfl,⟨p9 (by omega),rfl,rfl⟩,⟨p9 (by omega),rfl,rfl⟩,rfl,g9 (by omega),trivial⟩⟩
   ·rw [lbK hz] at ze
    conv=>whnf
    repeat' (first|refine zx ?_|refine qp ze ?_|refine qp ovk ?_|refine m9 (b9 _ _ _) ?_|refine I7 ?_|refine l9 ?_|refine a2i rfl hr ?_|refine Y7 gA1 ?_|refine G6 (b9 _ _ _) ?_|refine t6 gk ?_|refine an9 lA (O8 (y:=fz (D.A r k / D.A r s)) eK) ?_|refine zd ?_ ?_<;>intro h<;>try omega|fail)<;>conv=>whnf
    all_goals first
     |omega
     |exact ⟨hlt,trivial,idR (m+7),V4 (T':=[]) (a12 rfl rfl rfl rfl rfl rfl (by rw [a03 hlt,b1v hr (b7o hks)];rfl)) rfl (by simp [b9]) (by intro k hk;simp at hk;subst hk;exact aB5) ⟨⟨p9 (by omega),rfl,rfl⟩,rfl,rfl,⟨p9 (by omega),rfl,rfl⟩,⟨p9 (by omega),rfl,rfl⟩,rfl,g9 (by omega),trivial⟩⟩
 ·have hke:k=n:=by omega
  subst hke
  have gs1:(rF k (A1 D r s k r))[0+(s:Int).toNat]? =some (fz (D.A r s)):=by rw [eS,L4 hs,bc5]
  have i1:=J4 1 (by decide) (by decide)
  have ov1:=aS0 ((1:Int):Rat) (D.A r s) hp (by have:=rl1;show rl 1<=_;omega) (by omega)
  conv=>whnf
  repeat' (first|refine zx ?_|refine qp i1 ?_|refine qp ov1 ?_|refine m9 (b9 _ _ _) ?_|refine I7 ?_|refine l9 ?_|refine a2i rfl hr ?_|refine Y7 gA1 ?_|refine G6 (b9 _ _ _) ?_|refine t6 gs1 ?_|refine an9 lA (O8 (y:=fz (((1:Int):Rat) / D.A r s)) eS) ?_|refine zd ?_ ?_<;>intro h<;>try omega|fail)<;>conv=>whnf
  all_goals try omega
  refine j5 e8 (fun q=>([S.c (C.ptr 0 0 0),b7 .i64 r,b7 .i64 s,J,J,J,S.c (C.ptr 1 r 0)]++Jn 77++[b7 .i64 m,b7 .i64 q]++Jn 97,L5 m k fr (V2 D r s q) D.G D.O D.F (A2 D r s q) [])) m (fun _=>True) (idR (m+6)) trivial ?_ ?_
  ·refine V4 (T:=[]) (T':=[frX (D.A r s)]) (a12 rfl (by rw [b6i]) rfl rfl rfl rfl (by rw [b5Y hr hs];rfl)) rfl (by simp [b9]) (by simp) ⟨⟨p9 (by omega),rfl,rfl⟩,rfl,rfl,⟨p9 (by omega),rfl,rfl⟩,g9 (by omega),g9 rfl,trivial⟩
  have eP:∀j,(D.exch r s).A r j=D.pRow r s j:=fun j=>by show (if r=r then _ else _)=_;rw [if_pos rfl]
  have har:∀j,j<k->rl (D.pRow r s j)<=30000:=fun j hj=>by rw [← eP];exact hB'.a r hr j hj
  intro q hq _
  have gAr:(mF m k (A2 D r s q))[r]? =some (rF k (D.pRow r s)):=by rw [Q6 hr,bb6]
  by_cases hqm:q<m
  ·have eQ:0+(q:Int).toNat=q:=by omega
   have lQ:q<(mF m k (A2 D r s q)).length:=by rw [b9];exact hqm
   have ze:=ac9 (D.A q s)
   by_cases hqr:q=r
   ·subst hqr
    conv=>whnf
    repeat' (first|refine zx ?_|refine m9 (b9 _ _ _) ?_|refine I7 ?_|refine l9 ?_|refine zd ?_ ?_<;>intro h<;>try omega|fail)<;>conv=>whnf
    all_goals first
     |omega
     |exact ⟨hqm,trivial,idR (m+6),V4 (T:=[]) (T':=[]) (a12 rfl (by rw [← b65]) rfl rfl rfl rfl (by rw [← b73];rfl)) rfl (by simp [b9]) (by simp) ⟨⟨p9 (by omega),rfl,rfl⟩,rfl,rfl,⟨p9 (by omega),rfl,rfl⟩,rfl,g9 (by omega),trivial⟩⟩
   ·have gAq:(mF m k (A2 D r s q))[q]? =some (rF k (D.A q)):=by rw [Q6 hqm,b7B hqr]
    have gqs:(rF k (D.A q))[0+(s:Int).toNat]? =some (fz (D.A q s)):=by rw [eS,L4 hs]
    by_cases hz:D.A q s=0
    ·rw [lbI hz] at ze
     conv=>whnf
     repeat' (first|refine zx ?_|refine qp ze ?_|refine m9 (b9 _ _ _) ?_|refine I7 ?_|refine l9 ?_|refine a2i eQ hqm ?_|refine Y7 gAq ?_|refine t6 gqs ?_|refine zd ?_ ?_<;>intro h<;>try omega|fail)<;>conv=>whnf
     all_goals first
      |omega
      |exact ⟨hqm,trivial,idR (m+6),V4 (T:=[]) (T':=[]) (a12 rfl (by rw [← b6g hqr hz]) rfl rfl rfl rfl (by rw [← b7w hqr hz];rfl)) rfl (by simp [b9]) (by simp) ⟨⟨p9 (by omega),rfl,rfl⟩,rfl,rfl,⟨p9 (by omega),rfl,rfl⟩,rfl,g9 (by omega),trivial⟩⟩
    ·rw [lbK hz] at ze
     have b1:=hB.v q hqm
     have b2:=hB.a q hqm s hs
     have b3:=hB'.v r hr
     have haq:∀j,j<k->rl (D.A q j)<=30000:=hB.a q hqm
     have le:=aZ3 (V2 D r s q q) (D.A q s) (V2 D r s q r) (by rw [b5d hqr];omega) (by omega) (by rw [b9P];have e:(D.exch r s).V r=D.V r / D.A r s:=(by show (if r=r then _ else _)=_;rw [if_pos rfl]);rw [← e];omega)
     conv=>whnf
     repeat' (first|refine zx ?_|refine qp ze ?_|refine qp le ?_|refine qp F9 ?_|refine m9 (b9 _ _ _) ?_|refine I7 ?_|refine l9 ?_|refine a2i eQ hqm ?_|refine a2i rfl hr ?_|refine Y7 gAq ?_|refine t6 gqs ?_|refine b0O (by show _<(S1 _ _ _ _).length;rw [F9];omega) ?_|refine b7j (by omega) (a2i rfl hr ?_)|refine .inr ⟨_,_,b0v (ia:=q+6) (ir:=r+6) (by omega) (M3 gAq) (M3 gAr) hn hs haq har,?_⟩|refine zd ?_ ?_<;>intro h<;>try omega|fail)<;>conv=>whnf
     all_goals first
      |omega
      |exact ⟨hqm,trivial,idR (m+6),V4 (T:=[]) (T':=[]) (a12 rfl (am9 (v:=V2 D r s q q - D.A q s*V2 D r s q r) eQ hqm rfl (by rw [b5d hqr,b9P];exact b1h hqr)) rfl rfl rfl rfl (by rw [b3I lQ,b1v hqm (b0K hqr)];rfl)) rfl (by simp [b9]) (by simp) ⟨⟨p9 (by omega),rfl,rfl⟩,rfl,rfl,⟨p9 (by omega),rfl,rfl⟩,rfl,g9 (by omega),trivial⟩⟩
  ·have hqe:q=m:=by omega
   subst hqe
   have ggs:(rF k D.G)[0+(s:Int).toNat]? =some (fz (D.G s)):=by rw [eS,L4 hs]
   have ze:=ac9 (D.G s)
   have eL:a0K 6 q k (V2 D r s q)=a0K 6 q k (D.exch r s).V:=by
    have:S1 6 q k (V2 D r s q)=S1 6 q k (D.exch r s).V:=lbp fun i hi=>by rw [b8t (lbC.1 hi)]
    unfold a0K;rw [this]
   have eA:mF q k (A2 D r s q)=mF q k (D.exch r s).A:=aO5 fun i hi j _=>b88 hi
   have eO:a0U q (fun i=>if i=r then D.F s else D.O i)=a0U q (D.exch r s).O:=rfl
   have eF:a0U k (fun j=>if j=s then D.O r else D.F j)=a0U k (D.exch r s).F:=rfl
   have e0:a0a q k fr (D.exch r s)=L5 q k fr (D.exch r s).V (D.exch r s).G (D.exch r s).O (D.exch r s).F (D.exch r s).A []:=by
    show _::_::_::_::_::_::_=_::_::_::_::_::_::(_++[])
    rw [List.append_nil]
   by_cases hz:D.G s=0
   ·have eG:(D.exch r s).G=D.G:=by have:=aH8 (row:=D.pRow r s) hz;exact this
    rw [lbI hz] at ze
    conv=>whnf
    repeat' (first|refine zx ?_|refine qp ze ?_|refine qp 9 ?_|refine m9 (b9 _ _ _) ?_|refine I7 ?_|refine l9 ?_|refine t6 ggs ?_|refine a11 eR hr ?_|refine a11 eS hs ?_|refine bl0 [9] ?_|refine zd ?_ ?_<;>intro h<;>try omega|fail)<;>conv=>whnf
    all_goals first
     |omega
     |(rw [e0];exact a9W (T:=[]) (a12 rfl eL (by rw [eG]) (a75 eR hr) (a75 eS hs) rfl (by rw [eA])) rfl (by simp [b9]) trivial)
   ·have eG:(D.exch r s).G=tkA D.G (D.pRow r s) s:=rfl
    rw [lbK hz] at ze
    conv=>whnf
    repeat' (first|refine zx ?_|refine qp ze ?_|refine qp 9 ?_|refine m9 (b9 _ _ _) ?_|refine I7 ?_|refine l9 ?_|refine t6 ggs ?_|refine a2i rfl hr ?_|refine a11 eR hr ?_|refine a11 eS hs ?_|refine bl0 [9] ?_|refine .inr ⟨_,_,b0v (ia:=2) (ir:=r+6) (by omega) rfl (M3 gAr) hn hs hB.g har,?_⟩|refine zd ?_ ?_<;>intro h<;>try omega|fail)<;>conv=>whnf
    all_goals first
     |omega
     |(rw [e0];exact a9W (T:=[]) (a12 rfl eL (by rw [eG]) (a75 eR hr) (a75 eS hs) rfl (by rw [eA])) rfl (by simp [b9]) trivial)
end Go.Proofs.YtikokmdpigploaaGreat
