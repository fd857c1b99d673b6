/- Part 10. -/
import Derived.Test.YtaejgdbahjjncaaGreatWj9
namespace Go.Proofs.YtaejgdbahjjncaaGreat
set_option linter.unusedVariables false
set_option linter.unusedSimpArgs false
set_option maxRecDepth 100000
set_option maxHeartbeats 8000000
open Go.RowKit
open St1 St2 St3 St4 St5 St6 St7 St8 StA StB
theorem aJ9 (l:List (Int × Rat)) (z:List Rat) (hl:l.length<=1000000) (h1:∀t ∈ l,rl t.2<=20000) (h2:∀v ∈ z,rl v<=40000) (hS:∀k,rl (j0 (l.take k) z)<=60000) (hz:z.length<=1000000) (hr:d6 (-1) z.length l=true):
 a8 Tryz.prog 214 [j1 l,B4 (z.map fz)] [] (frS (fz (j0 l z))) []:=by
 have m1:(l.map i8).length=l.length:=by simp
 have m2:((z.map fz).map n7).length=z.length:=by simp
 have i0:=H4 0 (by decide) (by decide)
 (refine ac Tryz.func214 ?_;(conv=>whnf);repeat ((first|refine b0x ?_|refine zy ?_);conv=>whnf))
 repeat' (first|refine zx ?_|refine qp i0 ?_|refine zd ?_ ?_<;>intro h<;>try omega|fail)<;>conv=>whnf
 refine g8 b9 (fun k=>([J,B4 (z.map fz),J,J,S.c (C.ptr 0 0 0),S.c (C.ptr 1 0 0),J,J,J,J,J,j1 l,a7 .i64 l.length,a7 .i64 k]++Jn 22,[frB M6,frB (fz (j0 (l.take k) z))])) l.length (fun _=>True) [some 0,some 1] trivial
  ⟨rfl,rfl,⟨⟨rfl,rfl,rfl,.inr ⟨⟨rfl,rfl,rfl,rfl,trivial⟩,trivial⟩⟩,⟨rfl,rfl,rfl,.inl ⟨rfl,D4 _⟩⟩,trivial⟩,⟨rfl,⟨rfl,rfl,rfl⟩,⟨rfl,rfl,rfl⟩,rfl,c7 (by simp),rfl,trivial⟩⟩ ?_
 intro k hk _
 by_cases hlt:k<l.length
 ·obtain ⟨t,ht⟩:∃t,l[k]? =some t:=⟨_,lbf hlt⟩
  obtain ⟨v,c⟩:=t
  have hv:=aq0 hr _ (lbm ht)
  simp only at hv
  have bc:=h1 _ (lbm ht)
  simp only at bc
  obtain ⟨x,hx⟩:∃x,z[v.toNat]? =some x:=⟨_,lbf (by omega)⟩
  have hxd:z.getD v.toNat 0=x:=by rw [lbl,hx];rfl
  have bx:=h2 x (lbm hx)
  have b3:=a86 c x
  have bs:=hS k
  have mu:=az2 c x (by omega) (by omega)
  have ad:=a4o (j0 (l.take k) z) (c*x) (by omega) (by omega)
  have e:j0 (l.take k) z+c*x=j0 (l.take (k+1)) z:=by
   have:l.take (k+1)=l.take k++[(v,c)]:=by rw [lbG,ht];rfl
   rw [this,L8,←hxd]
  rw [e] at ad
  have xz:(z.map fz)[v.toNat]? =some (fz x):=by rw [lba,hx];rfl
  conv=>whnf
  repeat' (first|refine zx ?_|refine qp mu ?_|refine qp ad ?_|refine qp 10 ?_|refine qp 5 ?_|refine f9 ht ?_|refine F6 (by omega) xz ?_|refine bl0 [10] ?_|refine bl0 [5] ?_|refine zd ?_ ?_<;>intro h<;>try omega|fail)<;>conv=>whnf
  all_goals first
   |omega
   |exact ⟨hlt,trivial,[some 0,some 1],rfl,rfl,⟨⟨rfl,rfl,rfl,.inl ⟨rfl,D4 _⟩⟩,⟨rfl,rfl,rfl,.inl ⟨rfl,D4 _⟩⟩,trivial⟩,⟨rfl,⟨rfl,rfl,rfl⟩,⟨rfl,rfl,rfl⟩,rfl,rfl,rfl,trivial⟩⟩
 ·have hke:k=l.length:=by omega
  subst hke
  rw [lbn (lbQ _)]
  conv=>whnf
  repeat' (first|refine zx ?_|refine zd ?_ ?_<;>intro h<;>try omega|fail)<;>conv=>whnf
  all_goals first
   |omega
   |exact b0C rfl
theorem a7K (z:List Rat):(z.map fz).all R4=true:=by
 rw [lbv];intro f hf
 obtain ⟨x,_,rfl⟩:=lbx.1 hf
 exact a9E x
theorem a6C (l:List (Int × Rat)) (z:List Rat) (hl:l.length<=1000000) (h1:∀t ∈ l,rl t.2<=200) (h2:∀v ∈ z,rl v<=40000) (hS:∀k,rl (j0 (l.take k) z)<=60000) (hz:z.length<=1000000) (hr:d6 (-1) z.length l=true):
 a8 Tryz.prog 143 [j1 l,B4 (z.map fz)] [] (.tup [frS (fz (j0 l z)),d9 true]) []:=by
 have m2:((z.map fz).map n7).length=z.length:=by simp
 have rt:=B8 l z.length hl h1
 rw [lbH (by omega),hr] at rt
 have pt:=b0E (z.map fz) (by simpa using hz) (fun f hf=>by
  obtain ⟨x,hx,rfl⟩:=lbx.1 hf
  have:=h2 x hx
  have a:=K0 x
  have b:=M3 x
  exact ⟨by show bl x.num<=_;omega,by show bl x.den<=_;omega⟩)
 rw [a7K] at pt
 have va:=aJ9 l z hl (fun t ht=>by have:=h1 t ht;omega) h2 hS hz hr
 have rt2:a8 Tryz.prog 53 [j1 l,a7 .i64 (((z.map fz).map n7).length:Nat)] [] (d9 (true && true)) []:=by rw [m2];exact rt
 (refine ac Tryz.func143 ?_;(conv=>whnf);repeat ((first|refine b0x ?_|refine zy ?_);conv=>whnf))
 repeat' (first|refine zx ?_|refine qp rt2 ?_|refine qp pt ?_|refine qp va ?_|refine zd ?_ ?_<;>intro h<;>try omega|fail)<;>conv=>whnf
 all_goals first
  |(exfalso;simp_all;done)
  |exact j2 ⟨⟨rfl,rfl,rfl,rfl,trivial⟩,rfl,trivial⟩
structure H3 (s:f7) (g:List (Int × Rat)) (n B:Nat):Prop where
 o:b7u s g n
 sb:ai5 s
 gb:∀t ∈ g,rl t.2<=200
 bd:∀D,V4 (c8 s).length n (f8 s g) D->BdD (c8 s).length n B D
 b1:1<=B
 bn:(n+3)*(B+2)<=50000
 r:s.rows.length<=1000
theorem H3.nn {s:f7} {g:List (Int × Rat)} {n B:Nat} (h:H3 s g n B):s.n.toNat=n:=by have:=h.o.en;omega
theorem H3.bb {s:f7} {g:List (Int × Rat)} {n B:Nat} (h:H3 s g n B):B<=17000:=by
 have h1:=h.bn
 have:(n+3)*(B+2)=n*(B+2)+3*(B+2):=by rw [I3]
 omega
theorem H3.m {s:f7} {g:List (Int × Rat)} {n B:Nat} (h:H3 s g n B):(c8 s).length<=2000:=by
 have:=a4V (s:=s) s.rows.length
 have:=h.r
 show (J5 s s.rows.length).length<=_
 omega
abbrev bO (cells:List C):Blk:={ mode:=.live,elem:=38,size:=8,rows:=[cells],box:=true }
abbrev z8:List C:=[.t (ti 0),.t (ti 0),.t (.sl 0 .nil []),.t (ti 0),.t (.sl 0 .nil []),.t (.sl 0 .nil []),.t (.sl 0 .nil []),.t (.sl 0 .nil [])]
theorem a8N:C9 (bO z8).rows:=c6 [[ti 0,ti 0,.sl 0 .nil [],ti 0,.sl 0 .nil [],.sl 0 .nil [],.sl 0 .nil [],.sl 0 .nil []]]
theorem Q6 {s:f7} {g:List (Int × Rat)} {n B:Nat} (h:H3 s g n B):
 a8 Tryz.prog 196 [.c (.ptr 0 0 0)] (Y8 (c8 s).length n (c8 s) (f8 s g)) (.tup [a7 .i64 (aX5 (U5 s g)).1,a7 .i64 (aX5 (U5 s g)).2]) (Y8 (c8 s).length n (c8 s) (m8 s g)):=by
 have hn:=h.nn
 subst hn
 have hm:=h.m
 exact b3T _ _ (c8 s) (f8 s g) _ (by omega) h.o.n1 a2B (fun D hD=>by
  have hb:=h.bd D hD
  have hB:=h.bb
  exact ⟨fun i hi=>by have:=hb.v i hi;omega,fun i hi j hj=>by have:=hb.a i hi j hj;omega,fun j hj=>by have:=hb.g j hj;omega⟩)
theorem ad8 {s:f7} {g:List (Int × Rat)} {n B:Nat} (h:H3 s g n B):(F9 s g).length=n:=by unfold F9;rw [a4I];exact h.nn
theorem a8G {s:f7} {g:List (Int × Rat)} {n B:Nat} (h:H3 s g n B):a8 Tryz.prog 197 [dT (c8 s).length n (c8 s) (m8 s g)] [] (B4 ((F9 s g).map fz)) []:=by
 have hn:=h.nn
 subst hn
 exact b5i _ _ _ _ Q3.p (by have:=h.m;omega) h.o.n1
theorem a5T {s:f7} {g:List (Int × Rat)} {n B:Nat} (h:H3 s g n B):BdD (c8 s).length n B (m8 s g):=by
 have hn:=h.nn
 subst hn
 exact h.bd _ (a4j a2B).1
theorem au6 {s:f7} {g:List (Int × Rat)} {n B:Nat} (h:H3 s g n B) (H:Hp):R2 Tryz.prog 200 [dT (c8 s).length n (c8 s) (m8 s g),a7 .i64 s.rows.length] H (.c (.own H.length 0 s.rows.length true)) [flB (rF s.rows.length (a2L s (m8 s g)))]:=by
 have hb:=a5T h
 have hp:a0F (c8 s).length n (m8 s g):=by have hn:=h.nn;subst hn;exact Q3.p
 refine a12 (b2D s n h.o.en (m8 s g) hp B hb.g h.b1 ?_ (by have:=h.m;omega) h.r h.o.n1) rfl rfl (c6 _)
 have:=h.bn
 have:(n+3)*(B+2)=(n+2)*(B+2)+(B+2):=by rw [show n+3=(n+2)+1 by omega,lbU]
 omega
theorem a14 {i m:Nat} (h:i<m):E6 [some m] i=true:=by
 unfold E6
 have:Nat.beq m i=false:=by
  cases hb:Nat.beq m i with
  |false=>rfl
  |true=>have:=a0H hb;omega
 rw [this];rfl
theorem a7d {m n:Nat} {fr:List (Nat × Bool)} {D:Fd} {env env':Env} (b:Blk) (hb:C9 b.rows) (hE:a6w [some (m+6)] (I2 m n fr D.V D.G D.O D.F D.A [b]) env env'):b6x 0 [some (m+6)] env (I2 m n fr D.V D.G D.O D.F D.A [b]) env' [b]:=by
 refine ⟨rfl,?_,a6R rfl fun i k' hk=>?_,hE⟩
 ·simp only [V3,a6N];cases b.mode<;>rfl
 ·rcases i with _|i
  ·injection hk with hk;subst hk
   exact ⟨m+6,_,rfl,a1c (t:=0) (b8 _ _ _),g7 hb⟩
  ·simp at hk
theorem a6m (s:f7) (g:List (Int × Rat)) (n B:Nat) (h:H3 s g n B) (hout:U5 s g=.best) (hS:∀k,rl (j0 (g.take k) (F9 s g))<=60000) (hpt:∀v ∈ F9 s g,rl v<=40000):
 a8 Tryz.prog 124 [Q8 s,j1 g] [] (.tup [.agg (C.t (ti 0)::frC (fz (j0 g (F9 s g)))++[.t (H5 ((F9 s g).map fz)),.own 0 0 s.rows.length true,.t (.sl 0 .nil [])]),a7 .i64 0]) [flB (rF s.rows.length (a2L s (m8 s g)))]:=by
 have hn:=h.nn
 have hm:=h.m
 have hr1:=h.r
 have hgl:=z7 h.o.tg
 have hn1:=h.o.n1
 have lr:=S7 s h.sb
 rw [h.o.r] at lr
 have rt:=B8 g s.n (by have:=h.o.n1;omega) h.gb
 rw [h.o.en,lbH (by omega),h.o.tg,←h.o.en] at rt
 have op:=a6H (bO z8) (a7A s g n h.o)
 have se:=Q6 h
 rw [hout] at se
 have m1:(s.rows.map C0).length=s.rows.length:=by simp
 have pt:=a8G h
 have va:=a6C g (F9 s g) (by omega) h.gb hpt hS (by rw [ad8 h];omega) (by rw [ad8 h];exact h.o.tg)
 have pr:∀H:Hp,R2 Tryz.prog 200 [dT (c8 s).length n (c8 s) (m8 s g),a7 .i64 ((s.rows.map C0).length:Nat)] H (.c (.own H.length 0 s.rows.length true)) [flB (rF s.rows.length (a2L s (m8 s g)))]:=by rw [m1];exact au6 h
 (refine a4P b9 Tryz.func124 rfl (by decide) ?_;refine x4 b9 ?_;(conv=>whnf);repeat ((first|refine b0x ?_|refine zy ?_);conv=>whnf))
 repeat' (first|refine zz ?_|refine b0x ?_|refine zd ?_ ?_<;>intro h<;>try omega|refine zy ?_|fail)<;>conv=>whnf
 (refine x4 b9 ?_;conv=>whnf)
 repeat' (first|refine zx ?_|refine qp lr ?_|refine qp rt ?_|refine zd ?_ ?_<;>intro h<;>try omega|fail)<;>conv=>whnf
 all_goals try (exfalso;simp_all;done)
 refine a0U b9 ([J,j1 g,S.c (C.t (T.ptr (a1j s))),J,S.c (C.ptr ((c8 s).length+6) 0 0),a7 .i64 0,S.c (C.ptr 0 0 0)]++Jn 71) (I2 (c8 s).length n (c8 s) (f8 s g).V (f8 s g).G (f8 s g).O (f8 s g).F (f8 s g).A [bO z8]) ?_ ?_
 ·conv=>whnf
  repeat' (first|refine zx ?_|refine .inr ⟨_,_,op,?_⟩|refine G2 ?_|refine zd ?_ ?_<;>intro h<;>try omega|fail)<;>conv=>whnf
  exact ⟨_,a2G a8N rfl ⟨rfl,g9 rfl,⟨by rw [u9 (by omega)];simp [fS],rfl,rfl⟩,rfl,⟨by rw [u9 (by omega)];simp [fS],rfl,rfl⟩,trivial⟩⟩
 refine S9 b9 ([J,j1 g,S.c (C.t (T.ptr (a1j s))),J,S.c (C.ptr 0 0 0),a7 .i64 0,dT (c8 s).length n (c8 s) (m8 s g),a7 .i64 (-1),a7 .i64 (-1)]++Jn 69) [bO z8] ?_ ?_
 ·have si:=a15 [bO z8] rfl rfl se
  conv=>whnf
  repeat' (first|refine zx ?_|refine qp 4 ?_|refine .inr ⟨_,_,si,?_⟩|refine i9 ?_|refine bl0 [4] ?_|refine zd ?_ ?_<;>intro h<;>try omega|fail)<;>conv=>whnf
  exact ⟨_,a7d (bO z8) a8N ⟨.inl (g9 rfl),.inl (g9 rfl),.inl ⟨rfl,rfl,rfl⟩,.inl rfl,.inr (a4J fun i hi=>a14 hi),.inl rfl,.inl rfl,trivial⟩⟩
 (refine x4 b9 ?_;conv=>whnf)
 repeat' (first|refine zx ?_|refine zd ?_ ?_<;>intro h<;>try omega|fail)<;>conv=>whnf
 all_goals try omega
 (refine x4 b9 ?_;conv=>whnf)
 repeat' (first|refine zx ?_|refine zd ?_ ?_<;>intro h<;>try omega|fail)<;>conv=>whnf
 all_goals try omega
 (refine x4 b9 ?_;conv=>whnf)
 repeat' (first|refine zx ?_|refine qp pt ?_|refine zd ?_ ?_<;>intro h<;>try omega|fail)<;>conv=>whnf
 (refine x4 b9 ?_;conv=>whnf)
 repeat' (first|refine zx ?_|refine qp va ?_|refine qp 4 ?_|refine qp 5 ?_|refine bl0 [4] ?_|refine bl0 [5] ?_|refine zd ?_ ?_<;>intro h<;>try omega|fail)<;>conv=>whnf
 (refine x4 b9 ?_;conv=>whnf)
 repeat' (first|refine zx ?_|refine .inl ⟨_,_,pr _,?_⟩|refine zd ?_ ?_<;>intro h<;>try omega|fail)<;>conv=>whnf
 refine k8 b9 _ ?_
 conv=>whnf
 repeat' (first|refine zx ?_|refine zd ?_ ?_<;>intro h<;>try omega|fail)<;>conv=>whnf
 exact ⟨[some 2],rfl,rfl,⟨g7 (c6 _),trivial⟩,⟨⟨rfl,rfl,rfl,rfl,rfl,rfl,⟨rfl,rfl,rfl,fun h=>h⟩,rfl,trivial⟩,rfl,trivial⟩⟩
theorem a5k {P:Program} {g:FuncId} {args args':List S} {H H':Hp} {r:S} (h:a8 P g args' H r H') (hl:args.length=args'.length)
 (hw:∀(w:World) (ι:Io) (M:Ms) (j:Nat) (s s':S) (v:Value),args[j]? =some s->args'[j]? =some s'->RS w ι M s v->RS w ι M s' v):a8 P g args H r H':=by
 refine ⟨h.1,fun w ι M vals hl2 hv hH hM hf=>h.2 w ι M vals (by omega) (fun j s' hj=>?_) hH hM hf⟩
 have hlt:=(lbe.1 hj).1
 exact hw w ι M j _ s' _ (lbf (by omega)) hj (hv j _ (lbf (by omega)))
theorem aF5 {s:f7} {n:Nat} (b:Blk) (h:a8 Tryz.prog 195 [Q8 s,j1 []] [] (.c (.ptr 0 0 0)) (Y8 (c8 s).length n (c8 s) (f8 s []))):
 a8 Tryz.prog 195 [Q8 s,.c (.t (.sl 0 .nil []))] [b] (.c (.ptr 1 0 0)) (b82 (c8 s).length n (c8 s) (f8 s []) b):=by
 refine a5k (a6H b h) rfl fun w ι M j x y v hx hy hr=>?_
 rcases j with _|_|j
 ·injection hx with hx;injection hy with hy;subst hx hy;exact hr
 ·injection hx with hx;injection hy with hy;subst hx hy
  cases hr with
  |c hr=>cases hr with
   |t hr=>exact .c (.t (hr.weak rfl))
 ·simp at hx
theorem a2I {s:f7} {g:List (Int × Rat)} {n B r:Nat} (h:H3 s g n B) (hr:r<(c8 s).length) (H:Hp):R2 Tryz.prog 199 [dT (c8 s).length n (c8 s) (m8 s g),a7 .i64 s.rows.length,a7 .i64 r] H (.c (.own H.length 0 s.rows.length true)) [flB (rF s.rows.length (Y3 s (m8 s g) r))]:=by
 have hb:=a5T h
 have hp:a0F (c8 s).length n (m8 s g):=by have hn:=h.nn;subst hn;exact Q3.p
 exact a12 (aw1 s n r h.o.en (m8 s g) hp hr B (hb.a r hr) h.b1 h.bn (by have:=h.m;omega) h.r h.o.n1) rfl rfl (c6 _)
theorem b2r {s:f7} {g:List (Int × Rat)} {n B c:Nat} (h:H3 s g n B) (hc:c<n):a8 Tryz.prog 198 [dT (c8 s).length n (c8 s) (m8 s g),a7 .i64 c] [] (B4 ((ax6 s g c).map fz)) []:=by
 have hb:=a5T h
 have hB:=h.bb
 have hn:=h.nn
 subst hn
 exact b8l _ _ _ _ c hc Q3.p (by have:=h.m;omega) h.o.n1 (fun i hi=>by have:=hb.a i hi c hc;omega)
abbrev b8U:List C:=frC M6
theorem a8s (s:f7) (g:List (Int × Rat)) (n B r:Nat) (h:H3 s g n B) (hout:U5 s g=.row r):
 a8 Tryz.prog 124 [Q8 s,j1 g] [] (.tup [.agg (C.t (ti 1)::b8U++[.t (.sl 0 .nil []),.own 0 0 s.rows.length true,.t (.sl 0 .nil [])]),a7 .i64 0]) [flB (rF s.rows.length (Y3 s (m8 s g) r))]:=by
 have hn:=h.nn
 have hm:=h.m
 have hr1:=h.r
 have hgl:=z7 h.o.tg
 have hn1:=h.o.n1
 have hrm:r<(c8 s).length:=by have:=(a4l hout).1;exact this
 have lr:=S7 s h.sb
 rw [h.o.r] at lr
 have rt:=B8 g s.n (by have:=h.o.n1;omega) h.gb
 rw [h.o.en,lbH (by omega),h.o.tg,←h.o.en] at rt
 have op:=a6H (bO z8) (a7A s g n h.o)
 have se:=Q6 h
 rw [hout] at se
 have m1:(s.rows.map C0).length=s.rows.length:=by simp
 have rf:∀H:Hp,R2 Tryz.prog 199 [dT (c8 s).length n (c8 s) (m8 s g),a7 .i64 ((s.rows.map C0).length:Nat),a7 .i64 r] H (.c (.own H.length 0 s.rows.length true)) [flB (rF s.rows.length (Y3 s (m8 s g) r))]:=by rw [m1];exact a2I h hrm
 (refine a4P b9 Tryz.func124 rfl (by decide) ?_;refine x4 b9 ?_;(conv=>whnf);repeat ((first|refine b0x ?_|refine zy ?_);conv=>whnf))
 repeat' (first|refine zz ?_|refine b0x ?_|refine zd ?_ ?_<;>intro h<;>try omega|refine zy ?_|fail)<;>conv=>whnf
 (refine x4 b9 ?_;conv=>whnf)
 repeat' (first|refine zx ?_|refine qp lr ?_|refine qp rt ?_|refine zd ?_ ?_<;>intro h<;>try omega|fail)<;>conv=>whnf
 all_goals try (exfalso;simp_all;done)
 refine a0U b9 ([J,j1 g,S.c (C.t (T.ptr (a1j s))),J,S.c (C.ptr ((c8 s).length+6) 0 0),a7 .i64 0,S.c (C.ptr 0 0 0)]++Jn 71) (I2 (c8 s).length n (c8 s) (f8 s g).V (f8 s g).G (f8 s g).O (f8 s g).F (f8 s g).A [bO z8]) ?_ ?_
 ·conv=>whnf
  repeat' (first|refine zx ?_|refine .inr ⟨_,_,op,?_⟩|refine G2 ?_|refine zd ?_ ?_<;>intro h<;>try omega|fail)<;>conv=>whnf
  exact ⟨_,a2G a8N rfl ⟨rfl,g9 rfl,⟨by rw [u9 (by omega)];simp [fS],rfl,rfl⟩,rfl,⟨by rw [u9 (by omega)];simp [fS],rfl,rfl⟩,trivial⟩⟩
 refine S9 b9 ([J,j1 g,S.c (C.t (T.ptr (a1j s))),J,S.c (C.ptr 0 0 0),a7 .i64 0,dT (c8 s).length n (c8 s) (m8 s g),a7 .i64 r,a7 .i64 (-1)]++Jn 69) [bO z8] ?_ ?_
 ·have si:=a15 [bO z8] rfl rfl se
  conv=>whnf
  repeat' (first|refine zx ?_|refine qp 4 ?_|refine .inr ⟨_,_,si,?_⟩|refine i9 ?_|refine bl0 [4] ?_|refine zd ?_ ?_<;>intro h<;>try omega|fail)<;>conv=>whnf
  exact ⟨_,a7d (bO z8) a8N ⟨.inl (g9 rfl),.inl (g9 rfl),.inl ⟨rfl,rfl,rfl⟩,.inl rfl,.inr (a4J fun i hi=>a14 hi),.inl rfl,.inl rfl,trivial⟩⟩
 (refine x4 b9 ?_;conv=>whnf)
 repeat' (first|refine zx ?_|refine zd ?_ ?_<;>intro h<;>try omega|fail)<;>conv=>whnf
 all_goals try omega
 (refine x4 b9 ?_;conv=>whnf)
 repeat' (first|refine zx ?_|refine .inl ⟨_,_,rf _,?_⟩|refine zd ?_ ?_<;>intro h<;>try omega|fail)<;>conv=>whnf
 all_goals first
  |omega
  |exact ⟨[some 1],rfl,rfl,⟨g7 (c6 _),trivial⟩,⟨⟨rfl,rfl,rfl,rfl,rfl,rfl,⟨rfl,rfl,rfl,fun h=>h⟩,rfl,trivial⟩,rfl,trivial⟩⟩
theorem al3 {P:Program} {n0:Nat} {c:Operand} {t e:Code} {env:Env} {H:Hp} {Q:AX->Env->Hp->Prop} (hb:F5 env c=d9 true) (h:Awp P n0 t env H Q):Awp P n0 (.cond c t e) env H Q:=b1S hb h
theorem aw2 (s:f7) (g:List (Int × Rat)) (n B B0 c:Nat) (h:H3 s g n B) (h0:H3 s [] n B0) (hout:U5 s g=.col c) (hout0:U5 s []=.best):
 a8 Tryz.prog 124 [Q8 s,j1 g] [] (.tup [.agg (C.t (ti 2)::b8U++[.t (H5 ((F9 s []).map fz)),.t (.sl 0 .nil []),.t (H5 ((ax6 s g c).map fz))]),a7 .i64 0]) []:=by
 have hn:=h.nn
 have hm:=h.m
 have hr1:=h.r
 have hgl:=z7 h.o.tg
 have hn1:=h.o.n1
 have hcn:c<n:=by have:=(a74 hout).1;omega
 have lr:=S7 s h.sb
 rw [h.o.r] at lr
 have rt:=B8 g s.n (by have:=h.o.n1;omega) h.gb
 rw [h.o.en,lbH (by omega),h.o.tg,←h.o.en] at rt
 have op:=a6H (bO z8) (a7A s g n h.o)
 have se:=Q6 h
 rw [hout] at se
 have op0:=aF5 (bO z8) (a7A s [] n h0.o)
 have se0:=Q6 h0
 rw [hout0] at se0
 have m1:(s.rows.map C0).length=s.rows.length:=by simp
 have pt:=a8G h0
 have ra:=b2r h hcn
 (refine a4P b9 Tryz.func124 rfl (by decide) ?_;refine x4 b9 ?_;(conv=>whnf);repeat ((first|refine b0x ?_|refine zy ?_);conv=>whnf))
 repeat' (first|refine zz ?_|refine b0x ?_|refine zd ?_ ?_<;>intro h<;>try omega|refine zy ?_|fail)<;>conv=>whnf
 (refine x4 b9 ?_;conv=>whnf)
 repeat' (first|refine zx ?_|refine qp lr ?_|refine qp rt ?_|refine zd ?_ ?_<;>intro h<;>try omega|fail)<;>conv=>whnf
 all_goals try (exfalso;simp_all;done)
 refine a0U b9 ([J,j1 g,S.c (C.t (T.ptr (a1j s))),J,S.c (C.ptr ((c8 s).length+6) 0 0),a7 .i64 0,S.c (C.ptr 0 0 0)]++Jn 71) (I2 (c8 s).length n (c8 s) (f8 s g).V (f8 s g).G (f8 s g).O (f8 s g).F (f8 s g).A [bO z8]) ?_ ?_
 ·conv=>whnf
  repeat' (first|refine zx ?_|refine .inr ⟨_,_,op,?_⟩|refine G2 ?_|refine zd ?_ ?_<;>intro h<;>try omega|fail)<;>conv=>whnf
  exact ⟨_,a2G a8N rfl ⟨rfl,g9 rfl,⟨by rw [u9 (by omega)];simp [fS],rfl,rfl⟩,rfl,⟨by rw [u9 (by omega)];simp [fS],rfl,rfl⟩,trivial⟩⟩
 refine S9 b9 ([J,j1 g,S.c (C.t (T.ptr (a1j s))),J,S.c (C.ptr 0 0 0),a7 .i64 0,dT (c8 s).length n (c8 s) (m8 s g),a7 .i64 (-1),a7 .i64 c]++Jn 69) [bO z8] ?_ ?_
 ·have si:=a15 [bO z8] rfl rfl se
  conv=>whnf
  repeat' (first|refine zx ?_|refine qp 4 ?_|refine .inr ⟨_,_,si,?_⟩|refine i9 ?_|refine bl0 [4] ?_|refine zd ?_ ?_<;>intro h<;>try omega|fail)<;>conv=>whnf
  exact ⟨_,a7d (bO z8) a8N ⟨.inl (g9 rfl),.inl (g9 rfl),.inl ⟨rfl,rfl,rfl⟩,.inl rfl,.inr (a4J fun i hi=>a14 hi),.inl rfl,.inl rfl,trivial⟩⟩
 refine a2C ?_
 refine x4 b9 ?_
 conv=>whnf
 repeat' (first|refine zx ?_|refine zd ?_ ?_<;>intro h<;>try omega|fail)<;>conv=>whnf
 all_goals try omega
 refine al3 rfl ?_
 refine a0U b9 ([J,j1 g,S.c (C.t (T.ptr (a1j s))),J,S.c (C.ptr ((c8 s).length+6) 0 0),a7 .i64 0,dT (c8 s).length n (c8 s) (m8 s g),a7 .i64 (-1),a7 .i64 c,S.c (C.ptr 0 0 0)]++Jn 68) (I2 (c8 s).length n (c8 s) (f8 s []).V (f8 s []).G (f8 s []).O (f8 s []).F (f8 s []).A [bO z8]) ?_ ?_
 ·conv=>whnf
  repeat' (first|refine zx ?_|refine .inr ⟨_,_,op0,?_⟩|refine G2 ?_|refine zd ?_ ?_<;>intro h<;>try omega|fail)<;>conv=>whnf
  exact ⟨_,a2G a8N rfl ⟨rfl,g9 rfl,⟨by rw [u9 (by omega)];simp [fS],rfl,rfl⟩,rfl,g9 rfl,rfl,rfl,⟨by rw [u9 (by omega)];simp [fS],rfl,rfl⟩,trivial⟩⟩
 refine S9 b9 ([J,j1 g,S.c (C.t (T.ptr (a1j s))),J,S.c (C.ptr 0 0 0),a7 .i64 0,dT (c8 s).length n (c8 s) (m8 s g),a7 .i64 (-1),a7 .i64 c,dT (c8 s).length n (c8 s) (m8 s []),a7 .i64 (-1),a7 .i64 (-1)]++Jn 66) [bO z8] ?_ ?_
 ·have si:=a15 [bO z8] rfl rfl se0
  conv=>whnf
  repeat' (first|refine zx ?_|refine qp 4 ?_|refine .inr ⟨_,_,si,?_⟩|refine i9 ?_|refine bl0 [4] ?_|refine zd ?_ ?_<;>intro h<;>try omega|fail)<;>conv=>whnf
  exact ⟨_,a7d (bO z8) a8N ⟨.inl (g9 rfl),.inl (g9 rfl),.inl ⟨rfl,rfl,rfl⟩,.inl rfl,.inl (g9 rfl),.inl rfl,.inl rfl,.inr (a4J fun i hi=>a14 hi),.inl rfl,.inl rfl,trivial⟩⟩
 refine k8 b9 _ ?_
 conv=>whnf
 repeat' (first|refine zx ?_|refine qp pt ?_|refine qp ra ?_|refine zd ?_ ?_<;>intro h<;>try omega|fail)<;>conv=>whnf
 all_goals first
  |omega
  |exact ⟨[],rfl,rfl,trivial,⟨⟨rfl,rfl,rfl,rfl,rfl,rfl,rfl,rfl,trivial⟩,rfl,trivial⟩⟩
theorem as7 (s:f7) (g:List (Int × Rat)) (n B B0 c r:Nat) (h:H3 s g n B) (h0:H3 s [] n B0) (hout:U5 s g=.col c) (hout0:U5 s []=.row r):
 a8 Tryz.prog 124 [Q8 s,j1 g] [] (.tup [.agg (C.t (ti 1)::b8U++[.t (.sl 0 .nil []),.own 0 0 s.rows.length true,.t (.sl 0 .nil [])]),a7 .i64 0]) [flB (rF s.rows.length (Y3 s (m8 s []) r))]:=by
 have hrm:r<(c8 s).length:=by have:=(a4l hout0).1;exact this
 have hn:=h.nn
 have hm:=h.m
 have hr1:=h.r
 have hgl:=z7 h.o.tg
 have hn1:=h.o.n1
 have hcn:c<n:=by have:=(a74 hout).1;omega
 have lr:=S7 s h.sb
 rw [h.o.r] at lr
 have rt:=B8 g s.n (by have:=h.o.n1;omega) h.gb
 rw [h.o.en,lbH (by omega),h.o.tg,←h.o.en] at rt
 have op:=a6H (bO z8) (a7A s g n h.o)
 have se:=Q6 h
 rw [hout] at se
 have op0:=aF5 (bO z8) (a7A s [] n h0.o)
 have se0:=Q6 h0
 rw [hout0] at se0
 have m1:(s.rows.map C0).length=s.rows.length:=by simp
 have rf:∀H:Hp,R2 Tryz.prog 199 [dT (c8 s).length n (c8 s) (m8 s []),a7 .i64 ((s.rows.map C0).length:Nat),a7 .i64 r] H (.c (.own H.length 0 s.rows.length true)) [flB (rF s.rows.length (Y3 s (m8 s []) r))]:=by rw [m1];exact a2I h0 hrm
 (refine a4P b9 Tryz.func124 rfl (by decide) ?_;refine x4 b9 ?_;(conv=>whnf);repeat ((first|refine b0x ?_|refine zy ?_);conv=>whnf))
 repeat' (first|refine zz ?_|refine b0x ?_|refine zd ?_ ?_<;>intro h<;>try omega|refine zy ?_|fail)<;>conv=>whnf
 (refine x4 b9 ?_;conv=>whnf)
 repeat' (first|refine zx ?_|refine qp lr ?_|refine qp rt ?_|refine zd ?_ ?_<;>intro h<;>try omega|fail)<;>conv=>whnf
 all_goals try (exfalso;simp_all;done)
 refine a0U b9 ([J,j1 g,S.c (C.t (T.ptr (a1j s))),J,S.c (C.ptr ((c8 s).length+6) 0 0),a7 .i64 0,S.c (C.ptr 0 0 0)]++Jn 71) (I2 (c8 s).length n (c8 s) (f8 s g).V (f8 s g).G (f8 s g).O (f8 s g).F (f8 s g).A [bO z8]) ?_ ?_
 ·conv=>whnf
  repeat' (first|refine zx ?_|refine .inr ⟨_,_,op,?_⟩|refine G2 ?_|refine zd ?_ ?_<;>intro h<;>try omega|fail)<;>conv=>whnf
  exact ⟨_,a2G a8N rfl ⟨rfl,g9 rfl,⟨by rw [u9 (by omega)];simp [fS],rfl,rfl⟩,rfl,⟨by rw [u9 (by omega)];simp [fS],rfl,rfl⟩,trivial⟩⟩
 refine S9 b9 ([J,j1 g,S.c (C.t (T.ptr (a1j s))),J,S.c (C.ptr 0 0 0),a7 .i64 0,dT (c8 s).length n (c8 s) (m8 s g),a7 .i64 (-1),a7 .i64 c]++Jn 69) [bO z8] ?_ ?_
 ·have si:=a15 [bO z8] rfl rfl se
  conv=>whnf
  repeat' (first|refine zx ?_|refine qp 4 ?_|refine .inr ⟨_,_,si,?_⟩|refine i9 ?_|refine bl0 [4] ?_|refine zd ?_ ?_<;>intro h<;>try omega|fail)<;>conv=>whnf
  exact ⟨_,a7d (bO z8) a8N ⟨.inl (g9 rfl),.inl (g9 rfl),.inl ⟨rfl,rfl,rfl⟩,.inl rfl,.inr (a4J fun i hi=>a14 hi),.inl rfl,.inl rfl,trivial⟩⟩
 refine a2C ?_
 refine x4 b9 ?_
 conv=>whnf
 repeat' (first|refine zx ?_|refine zd ?_ ?_<;>intro h<;>try omega|fail)<;>conv=>whnf
 all_goals try omega
 refine al3 rfl ?_
 refine a0U b9 ([J,j1 g,S.c (C.t (T.ptr (a1j s))),J,S.c (C.ptr ((c8 s).length+6) 0 0),a7 .i64 0,dT (c8 s).length n (c8 s) (m8 s g),a7 .i64 (-1),a7 .i64 c,S.c (C.ptr 0 0 0)]++Jn 68) (I2 (c8 s).length n (c8 s) (f8 s []).V (f8 s []).G (f8 s []).O (f8 s []).F (f8 s []).A [bO z8]) ?_ ?_
 ·conv=>whnf
  repeat' (first|refine zx ?_|refine .inr ⟨_,_,op0,?_⟩|refine G2 ?_|refine zd ?_ ?_<;>intro h<;>try omega|fail)<;>conv=>whnf
  exact ⟨_,a2G a8N rfl ⟨rfl,g9 rfl,⟨by rw [u9 (by omega)];simp [fS],rfl,rfl⟩,rfl,g9 rfl,rfl,rfl,⟨by rw [u9 (by omega)];simp [fS],rfl,rfl⟩,trivial⟩⟩
 refine S9 b9 ([J,j1 g,S.c (C.t (T.ptr (a1j s))),J,S.c (C.ptr 0 0 0),a7 .i64 0,dT (c8 s).length n (c8 s) (m8 s g),a7 .i64 (-1),a7 .i64 c,dT (c8 s).length n (c8 s) (m8 s []),a7 .i64 r,a7 .i64 (-1)]++Jn 66) [bO z8] ?_ ?_
 ·have si:=a15 [bO z8] rfl rfl se0
  conv=>whnf
  repeat' (first|refine zx ?_|refine qp 4 ?_|refine .inr ⟨_,_,si,?_⟩|refine i9 ?_|refine bl0 [4] ?_|refine zd ?_ ?_<;>intro h<;>try omega|fail)<;>conv=>whnf
  exact ⟨_,a7d (bO z8) a8N ⟨.inl (g9 rfl),.inl (g9 rfl),.inl ⟨rfl,rfl,rfl⟩,.inl rfl,.inl (g9 rfl),.inl rfl,.inl rfl,.inr (a4J fun i hi=>a14 hi),.inl rfl,.inl rfl,trivial⟩⟩
 refine k8 b9 _ ?_
 conv=>whnf
 repeat' (first|refine zx ?_|refine qp 1 ?_|refine bl0 [1] ?_|refine zd ?_ ?_<;>intro h<;>try omega|fail)<;>conv=>whnf
 all_goals try omega
 (refine x4 b9 ?_;conv=>whnf)
 repeat' (first|refine zx ?_|refine .inl ⟨_,_,rf _,?_⟩|refine zd ?_ ?_<;>intro h<;>try omega|fail)<;>conv=>whnf
 all_goals first
  |omega
  |exact ⟨[some 1],rfl,rfl,⟨g7 (c6 _),trivial⟩,⟨⟨rfl,rfl,rfl,rfl,rfl,rfl,⟨rfl,rfl,rfl,fun h=>h⟩,rfl,trivial⟩,rfl,trivial⟩⟩
theorem ag4 (e:Ev) (hs:e.Sized) (p:Int):a8 Tryz.prog 11 [evS e,a7 .i64 p] [] (d9 (a0L e p)) []:=by
 have l1:=hs.s1
 have l2:(e.places.map C2.row).length=e.places.length:=by simp
 by_cases hx:idx p e.places.length=true
 ·obtain ⟨hp0,x,hx',kx⟩:=a8c hx
  (refine ac Tryz.func11 ?_;(conv=>whnf);repeat (refine zy ?_;conv=>whnf))
  rw [← l2] at hx
  repeat' (first|refine zx ?_|refine qp (a0o _ hs) ?_|refine qp (a0Z _ _) ?_|refine F6 hp0 hx' ?_|refine zd ?_ ?_<;>intro h<;>try omega|fail)<;>conv=>whnf
  all_goals (refine c9 ?_;simp_all [a0L];done)
 ·(refine ac Tryz.func11 ?_;(conv=>whnf);repeat (refine zy ?_;conv=>whnf))
  rw [← l2] at hx
  repeat' (first|refine zx ?_|refine qp (a0o _ hs) ?_|refine qp (a0Z _ _) ?_|refine zd ?_ ?_<;>intro h<;>try omega|fail)<;>conv=>whnf
  all_goals first|(exfalso;simp_all;done)|(refine c9 ?_;simp_all [a0L];done)
theorem b0F (e:Ev) (hs:e.Sized) (n:Int) (g:FuncId) (caps:List T) (q:j5->Bool) (hg:∀(k:Nat) (m:j5),e.moves[k]? =some m->p7 e=0->a8 Tryz.prog g (aO0 m::caps.map fun x=>.c (.t x)) [] (d9 (q m)) []):
 a8 Tryz.prog 46 [evS e,a7 .i64 n,.c (.t (.fn (.func g) caps))] [] (e8 (if p7 e=0 then l9 (fun k m=>decide ((k:Int)<n) && q m) 0 e.moves else [])) []:=by
 have l1:=hs.s2
 have l2:(e.moves.map j5.row).length=e.moves.length:=by simp
 (refine ac Tryz.func46 ?_;(conv=>whnf);repeat (refine zy ?_;conv=>whnf))
 repeat' (first|refine zx ?_|refine qp (a0o _ hs) ?_|refine zd ?_ ?_<;>intro h<;>try omega|fail)<;>conv=>whnf
 ·refine j2 ?_
  rw [if_neg h]
  exact rfl
 have h0:p7 e=0:=by omega
 rw [if_pos h0]
 let P:Nat->j5->Bool:=fun k m=>decide ((k:Int)<n) && q m
 refine g8 b9 (fun k=>([J,a7 .i64 n,S.c (C.t (T.fn (.func g) caps)),S.c (C.ptr 0 0 0),J,J,J,a3x 1 (U6 P e.moves k),J,J,J,J,J,J,S.c (C.t (P8 e.moves)),a7 .i64 e.moves.length,a7 .i64 k]++Jn 18,[evB e,k9 (U6 P e.moves k)])) e.moves.length (fun k=>True) [some 0,none] trivial
  ⟨rfl,rfl,⟨⟨rfl,rfl,rfl,.inl ⟨rfl,L5 e⟩⟩,⟨rfl,rfl⟩,trivial⟩,⟨rfl,rfl,⟨rfl,rfl,rfl⟩,⟨rfl,rfl,rfl⟩,g9 rfl,c7 (by simp),c7 rfl,trivial⟩⟩ ?_
 intro k hk hI
 conv=>whnf
 repeat' (first|refine zx ?_|refine zd ?_ ?_<;>intro h<;>try omega|fail)<;>conv=>whnf
 ·have hlt:k<e.moves.length:=by omega
  obtain ⟨x,hx⟩:∃x,e.moves[k]? =some x:=⟨_,lbf hlt⟩
  refine f9 hx ?_
  conv=>whnf
  have hpl:=ai4 P e.moves k
  have ha:(aO0 x::caps.map fun x=>S.c (C.t x)).all S.isT=true:=by simp [S.isT,C.isT,j5.cs,j5.row]
  repeat' (first|refine zx ?_|refine qp toC ?_|refine qp toC ?_|refine .inl ⟨_,_,D9 (hg k x hx h0) ha rfl,?_⟩|refine zz ?_|refine o6 (by simp [toC]) (by simp [toC];omega) ?_|refine zd ?_ ?_<;>intro h<;>try omega|fail)<;>conv=>whnf
  ·have hP:P k x=true:=by simp [P,h];omega
   refine ⟨hlt,trivial,[some 0,some 3],rfl,rfl,⟨⟨rfl,rfl,rfl,.inl ⟨rfl,L5 e⟩⟩,b7 rfl rfl rfl ?_ rfl,trivial⟩,⟨rfl,rfl,⟨rfl,rfl,rfl⟩,o9 rfl ?_,rfl,rfl,rfl,trivial⟩⟩
   ·rw [af1 P hx hP,lbC]
    exact (congrArg (fun n=>List.take n (toC ((U6 P e.moves k).map d7))++toC [[ti k]]) (by simp)).trans b4f
   ·rw [af1 P hx hP];simp [toC]
  all_goals
   have hP:P k x=false:=by simp [P];first|(intro hq;omega)|(intro _;assumption)
   refine ⟨hlt,trivial,[some 0,some 1],rfl,rfl,⟨⟨rfl,rfl,rfl,.inl ⟨rfl,L5 e⟩⟩,b7 rfl rfl rfl ?_ rfl,trivial⟩,⟨rfl,rfl,⟨rfl,rfl,rfl⟩,o9 rfl ?_,rfl,rfl,rfl,trivial⟩⟩
   ·rw [aq6 P hx hP]
   ·rw [aq6 P hx hP]
 ·have hk':l9 P 0 e.moves=U6 P e.moves k:=(aS7 P (by omega)).symm
  show Fin 0 _ _ (e8 (l9 P 0 e.moves)) []
  rw [hk']
  exact K6 rfl (by intro h;cases h) rfl rfl (by simp)
abbrev a5H (n:Int):T:=.ptr [ti n]
theorem b35 (m:j5) (p:Int):a8 Tryz.prog 47 (aO0 m::[a5H p].map fun x=>.c (.t x)) [] (d9 (decide (m.dst=p))) []:=by
 (refine ac Tryz.func47 ?_;(conv=>whnf);repeat (refine zy ?_;conv=>whnf))
 repeat' (first|refine zx ?_|refine zd ?_ ?_<;>intro h<;>try omega|fail)<;>conv=>whnf
 all_goals (refine c9 ?_;simp_all;done)
theorem b6Q (m:j5) (p:Int):a8 Tryz.prog 48 (aO0 m::[a5H p].map fun x=>.c (.t x)) [] (d9 (decide (m.src=p))) []:=by
 (refine ac Tryz.func48 ?_;(conv=>whnf);repeat (refine zy ?_;conv=>whnf))
 repeat' (first|refine zx ?_|refine zd ?_ ?_<;>intro h<;>try omega|fail)<;>conv=>whnf
 all_goals (refine c9 ?_;simp_all;done)
theorem aX0 (e:Ev) (hs:e.Sized) (p n:Int):a8 Tryz.prog 9 [evS e,a7 .i64 p,a7 .i64 n] [] (e8 (a3z e p n)) []:=by
 (refine ac Tryz.func9 ?_;(conv=>whnf);repeat (refine zy ?_;conv=>whnf))
 refine .inr ⟨_,_,x8 [0,1] (b0F e hs n 47 [a5H p] (fun m=>decide (m.dst=p)) fun k m hm h0=>b35 m p)
  ⟨b7J e,ah8,a2a (b7H (aw0 (b3t (by simp) rfl (by intro h;cases h) rfl rfl) aY4)),trivial⟩ rfl,?_⟩
 conv=>whnf
 repeat' (first|refine zx ?_|refine zd ?_ ?_<;>intro h<;>try omega|fail)<;>conv=>whnf
 refine j2 ?_
 exact rfl
theorem b4a (e:Ev) (hs:e.Sized) (p n:Int):a8 Tryz.prog 10 [evS e,a7 .i64 p,a7 .i64 n] [] (e8 (a1V e p n)) []:=by
 (refine ac Tryz.func10 ?_;(conv=>whnf);repeat (refine zy ?_;conv=>whnf))
 refine .inr ⟨_,_,x8 [0,1] (b0F e hs n 48 [a5H p] (fun m=>decide (m.src=p)) fun k m hm h0=>b6Q m p)
  ⟨b7J e,ah8,a2a (b7H (aw0 (b3t (by simp) rfl (by intro h;cases h) rfl rfl) aY4)),trivial⟩ rfl,?_⟩
 conv=>whnf
 repeat' (first|refine zx ?_|refine zd ?_ ?_<;>intro h<;>try omega|fail)<;>conv=>whnf
 refine j2 ?_
 exact rfl
abbrev E3 (l:List (Int × Rat)):Blk:={ mode:=.live,elem:=129,size:=5,rows:=toC (l.map i8),box:=false }
abbrev b7G (l:List j6):Blk:={ mode:=.live,elem:=192,size:=6,rows:=toC (l.map C0),box:=false }
abbrev bb5 (n:Int) (id len:Nat):Blk:={ mode:=.live,elem:=48,size:=2,rows:=[[.t (ti n),.own id 0 len true]],box:=true }
theorem b1Z {l:List j6} {w:j6} {n:Nat} (h:n=l.length):List.take n (toC (l.map C0))++toC [C0 w]=toC ((l++[w]).map C0):=by
 rw [lbn (by simp [toC,h])]
 simp [toC]
theorem L4 {P:Program} {f:FuncId} {args:List S} {H H1 H':Hp} {r s:S} (h:a8 P f args H r H1) (hf:Fin H.length r H1 s H'):a8 P f args H s H':=by
 refine ⟨h.1,fun w ι M vals hl hr hH hM hF=>?_⟩
 refine Calls.mono (h.2 w ι M vals hl hr hH hM hF) ?_
 rintro e w' ⟨v,rfl,ι',M',h4,hH',hM',hF',hst⟩
 obtain ⟨ρ,f1,f2,f3,f4⟩:=hf
 obtain ⟨g1,g2,g3⟩:=a2D.all f1 f2 f3 rfl hM hH' hst
 exact ⟨v,rfl,M7 ρ ι',_,f4.rs hH' h4,g1,fun b hb=>hM' b hb.1,g2,g3⟩
theorem aC2 {P:Program} {g:FuncId} {x:S} {H H':Hp} {r:S} (h:a8 P g [x,j1 []] H r H'):a8 P g [x,.c (.t (.sl 0 .nil []))] H r H':=by
 refine a5k h rfl fun w ι M j a b v hx hy hr=>?_
 rcases j with _|_|j
 ·injection hx with hx;injection hy with hy;subst hx hy;exact hr
 ·injection hx with hx;injection hy with hy;subst hx hy
  cases hr with
  |c hr=>cases hr with
   |t hr=>exact .c (.t (hr.weak rfl))
 ·simp at hx
theorem aD7 (z:List Rat):j0 [] z=0:=rfl
theorem b5O {s:f7} (hr:i7 s=true):U5 s []=.best∨∃r,U5 s []=.row r:=by
 rcases a4M s [] with h|h|⟨c,h⟩
 ·exact .inl h
 ·exact .inr h
 ·have:=(a95 hr rfl h).2
  rw [aD7] at this
  exact absurd this (by decide)
theorem a9A (s:f7) (n B:Nat) (h:H3 s [] n B) (hout:U5 s []=.best) (hpt:∀v ∈ F9 s [],rl v<=40000):
 a8 Tryz.prog 106 [Q8 s] [] (.tup [B4 ((F9 s []).map fz),.c (.t (.sl 0 .nil [])),d9 true]) []:=by
 have le:=aC2 (a6m s [] n B h hout (fun k=>by rw [List.take_nil,aD7];have:=rl0;omega) hpt)
 (refine ac Tryz.func106 ?_;(conv=>whnf);repeat ((first|refine b0x ?_|refine zy ?_);conv=>whnf))
 repeat' (first|refine zx ?_|refine qp 4 ?_|refine qp (4,6) ?_|refine .inr ⟨_,_,le,?_⟩|refine bl0 [4] ?_|refine bl0 [4,6] ?_|refine zd ?_ ?_<;>intro h<;>try omega|fail)<;>conv=>whnf
 all_goals first
  |omega
  |exact j2 ⟨rfl,rfl,rfl,trivial⟩
theorem ak2 (s:f7) (n B r:Nat) (h:H3 s [] n B) (hout:U5 s []=.row r):
 a8 Tryz.prog 106 [Q8 s] [] (.tup [.c (.t (.sl 0 .nil [])),B4 (rF s.rows.length (Y3 s (m8 s []) r)),d9 false]) []:=by
 have le:=aC2 (a8s s [] n B r h hout)
 (refine ac Tryz.func106 ?_;(conv=>whnf);repeat ((first|refine b0x ?_|refine zy ?_);conv=>whnf))
 repeat' (first|refine zx ?_|refine qp 4 ?_|refine qp (4,6) ?_|refine .inr ⟨_,_,le,?_⟩|refine bl0 [4] ?_|refine bl0 [4,6] ?_|refine zd ?_ ?_<;>intro h<;>try omega|fail)<;>conv=>whnf
 all_goals first
  |omega
  |exact j2 ⟨rfl,(show VC _ (fun id=>E6 [] id=true) (C.own 0 0 s.rows.length true) _ from p4 (k:=flB (rF s.rows.length (Y3 s (m8 s []) r))) rfl rfl (fun h=>h) rfl rfl (by simp [a0K])),rfl,trivial⟩
theorem L0 {α:Type} {f:α->List T} {l:List α} {x:α} {n:Nat} (h:n=l.length):List.take n (toC (l.map f))++toC [f x]=toC ((l++[x]).map f):=by
 rw [lbn (by simp [toC,h])]
 simp [toC]
def a0E (l:List (Int × Rat)) (f:Rat):List (Int × Rat):=l.map fun t=>(t.1,t.2*f)
theorem a8H (l:List (Int × Rat)) (f:Rat) {k:Nat} {t:Int × Rat} (h:l[k]? =some t):(a0E l f).take (k+1)=(a0E l f).take k++[(t.1,t.2*f)]:=by
 rw [lbG]
 congr 1
 unfold a0E
 rw [lba,h];rfl
theorem a1e (l:List (Int × Rat)) (f:Rat):(a0E l f).length=l.length:=by simp [a0E]
theorem az0 (l:List (Int × Rat)) (f:Rat) (hf:f≠0) (hr:d6 (-1) 1500 l=true) (hb:∀t ∈ l,rl t.2<=200) (hfb:rl f<=200):
 a8 Tryz.prog 16 [j1 l,frS (fz f)] [] (j1 (a0E l f)) []:=by
 have hl:=z7 hr
 have m1:(l.map i8).length=l.length:=by simp
 have rt:=B8 l 1500 (by omega) hb
 rw [lbH (by omega),hr] at rt
 have sg:=T8 f (by omega)
 have sz:=a2J (x:=f)
 have hs0:sgR f≠0:=fun h=>hf (sz.1 h)
 (refine ac Tryz.func16 ?_;(conv=>whnf);repeat ((first|refine b0x ?_|refine zy ?_);conv=>whnf))
 repeat' (first|refine zx ?_|refine qp rt ?_|refine qp sg ?_|refine zd ?_ ?_<;>intro h<;>try omega|fail)<;>conv=>whnf
 all_goals try omega
 all_goals try (exfalso;simp_all;done)
 refine g8 b9 (fun k=>([J,J,J,S.c (C.t (T.ptr (n7 (fz f)))),J,S.c (C.own 0 0 k true)]++Jn 12++[j1 l,a7 .i64 l.length,a7 .i64 k]++Jn 19,[E3 ((a0E l f).take k)])) l.length (fun _=>True) [none] trivial
  ⟨rfl,rfl,⟨⟨rfl,rfl⟩,trivial⟩,⟨g9 rfl,⟨rfl,rfl,rfl⟩,g9 rfl,c7 (by omega),c7 rfl,trivial⟩⟩ ?_
 intro k hk _
 by_cases hlt:k<l.length
 ·obtain ⟨t,ht⟩:∃t,l[k]? =some t:=⟨_,lbf hlt⟩
  have bt:=hb t (lbm ht)
  have mu:=az2 t.2 f (by omega) (by omega)
  have lk:((a0E l f).take k).length=k:=by rw [lbs,a1e];omega
  have lA:k<=(E3 ((a0E l f).take k)).rows.length:=by show k<=(toC _).length;simp [toC,a1e];omega
  conv=>whnf
  repeat' (first|refine zx ?_|refine qp mu ?_|refine qp toC ?_|refine qp 6 ?_|refine f9 ht ?_|refine o6 lA (by simp [toC];omega) ?_|refine bl0 [6] ?_|refine zd ?_ ?_<;>intro h<;>try omega|fail)<;>conv=>whnf
  all_goals first
   |omega
   |(refine ⟨hlt,trivial,[some 3],rfl,rfl,⟨b7 (rows:=((a0E l f).take (k+1)).map i8) rfl rfl rfl ?_ rfl,trivial⟩,⟨rfl,⟨rfl,rfl,rfl,fun h=>h⟩,rfl,rfl,c7 (by omega),trivial⟩⟩
     rw [a8H l f ht]
     exact L0 (f:=i8) (x:=(t.1,t.2*f)) lk.symm)
 ·have hke:k=l.length:=by omega
  subst hke
  conv=>whnf
  repeat' (first|refine zx ?_|refine zd ?_ ?_<;>intro h<;>try omega|fail)<;>conv=>whnf
  all_goals first
   |omega
   |exact K6 rfl (fun h=>h) rfl (by rw [lbn (by rw [a1e];exact lbQ _)]) (by simp [a1e])
theorem W6 {n n':Int} (h:n<=n'):∀{last:Int} {l:List (Int × Rat)},d6 last n l=true->d6 last n' l=true
 |_,[],_=>rfl
 |last,a::r,hr=>by
  unfold d6 at hr ⊢
  simp only [lbM,lbI] at hr ⊢
  exact ⟨⟨⟨hr.1.1.1,by omega⟩,hr.1.2⟩,W6 h hr.2⟩
def a0r (l:List (Int × Rat)):List (Int × Rat):=a0E l ((-1:Int):Rat)
structure b8u where
 hh:Int
 state:Int
 w:List Rat
 wo:List Rat
 pr:List Rat
def b8u.row (v:b8u):List T:=[ti v.hh,ti v.state,H5 (v.w.map fz),H5 (v.wo.map fz),H5 (v.pr.map fz)]
theorem b8b {x:Rat}:sgR x > 0↔0<x:=by unfold sgR;split<;>(try split)<;>simp_all<;>grind
theorem b8H {x:Rat}:sgR x<0↔x<0:=by unfold sgR;split<;>(try split)<;>simp_all
structure E0 where
 mv:Int
 mat:Int
def E0.row (p:E0):List T:=[ti p.mv,ti p.mat]
abbrev S0 (l:List E0):T:=.sl 2 .any (l.map E0.row)
abbrev G7 (l:List E0):S:=.c (.t (S0 l))
theorem ak7 (b:Bg) (hl:b.dl.length<=1000000):a8 Tryz.prog 134 [bgS b,bgS b] [] (d9 true) []:=by
 have l2:(b.dl.map d7).length=b.dl.length:=by simp
 (refine ac Tryz.func134 ?_;(conv=>whnf);repeat ((first|refine b0x ?_|refine zy ?_);conv=>whnf))
 repeat' (first|refine zx ?_|refine zd ?_ ?_<;>intro h<;>try omega|fail)<;>conv=>whnf
 all_goals try omega
 refine g8 b9 (fun k=>([J,J,S.c (C.t (T.ptr [ti b.sg,M4 b.dl])),S.c (C.t (T.ptr [ti b.sg,M4 b.dl])),J,a7 .i64 k]++Jn 32,[])) b.dl.length (fun _=>True) [] trivial
  ⟨rfl,rfl,trivial,⟨rfl,rfl,rfl,trivial⟩⟩ ?_
 intro k hk _
 by_cases hlt:k<b.dl.length
 ·conv=>whnf
  repeat' (first|refine zx ?_|refine f9 (x9 (by omega)) ?_|refine zd ?_ ?_<;>intro h<;>try omega|fail)<;>conv=>whnf
  all_goals first
   |omega
   |exact ⟨hlt,trivial,[],rfl,rfl,trivial,⟨rfl,rfl,rfl,trivial⟩⟩
 ·conv=>whnf
  repeat' (first|refine zx ?_|refine zd ?_ ?_<;>intro h<;>try omega|fail)<;>conv=>whnf
  all_goals first
   |omega
   |exact c9 rfl
theorem a96 (f:Fr) (lp:f.p.dl.length<=1000000) (lq:f.q.dl.length<=1000000):a8 Tryz.prog 60 [frS f,frS f] [] (d9 true) []:=by
 have s1:=ak7 f.p lp
 have s2:=ak7 f.q lq
 (refine ac Tryz.func60 ?_;(conv=>whnf);repeat ((first|refine b0x ?_|refine zy ?_);conv=>whnf))
 repeat' (first|refine zx ?_|refine qp s1 ?_|refine qp s2 ?_|refine zd ?_ ?_<;>intro h<;>try omega|fail)<;>conv=>whnf
 all_goals first
  |(exfalso;simp_all;done)
  |exact c9 rfl
def b1k (n:Int) (f:Fr):Bool:=decide ((f.p.dl.length:Int)<=n) && decide ((f.q.dl.length:Int)<=n)
theorem b2R (f:Fr) (n:Int):a8 Tryz.prog 88 [frS f,a7 .i64 n] [] (d9 (b1k n f)) []:=by
 have l1:(f.p.dl.map d7).length=f.p.dl.length:=by simp
 have l2:(f.q.dl.map d7).length=f.q.dl.length:=by simp
 (refine ac Tryz.func88 ?_;(conv=>whnf);repeat ((first|refine b0x ?_|refine zy ?_);conv=>whnf))
 repeat' (first|refine zx ?_|refine zd ?_ ?_<;>intro h<;>try omega|fail)<;>conv=>whnf
 all_goals (refine c9 ?_;unfold b1k;simp;omega)
abbrev ir (n:Int):Rat:=((n:Int):Rat)
instance:DecidableEq j6:=fun a b=>decidable_of_iff (a.terms=b.terms∧a.kind=b.kind∧a.value=b.value) ⟨fun ⟨h1,h2,h3⟩=>by cases a;cases b;simp_all,fun h=>by subst h;exact ⟨rfl,rfl,rfl⟩⟩
instance:DecidableEq f7:=fun a b=>decidable_of_iff (a.n=b.n∧a.rows=b.rows) ⟨fun ⟨h1,h2⟩=>by cases a;cases b;simp_all,fun h=>by subst h;exact ⟨rfl,rfl⟩⟩
def A7 (l:List (Int × Rat)):Prop:=∀t ∈ l,∃c:Int,t.2=((c:Int):Rat)∧bl c<=1
theorem a7b {i:Int} {c:Int} (h0:-1048575<=c) (h1:c<=1048575):A7 [(i,((c:Int):Rat))]:=by
 intro t ht
 simp at ht
 subst ht
 exact ⟨c,rfl,S5 h0 h1⟩
theorem a7f {a b:List (Int × Rat)} (ha:A7 a) (hb:A7 b):A7 (a++b):=by
 intro t ht
 rcases lbz.1 ht with h|h
 ·exact ha t h
 ·exact hb t h
theorem aD1 {l:List (Int × Rat)} {z:List Rat} {B:Nat} (h1:∀t ∈ l,rl t.2<=1) (h2:∀v ∈ z,rl v<=B):∀k,rl (j0 (l.take k) z)<=l.length*(B+4)+1:=by
 have key:∀k,k<=l.length->rl (j0 (l.take k) z)<=k*(B+4)+1:=by
  intro k
  induction k with
  |zero=>intro _;rw [a7g];have:=rl0;show rl 0<=_;omega
  |succ k ih=>
   intro hk
   have ih:=ih (by omega)
   rw [b17 (show k<l.length by omega),L8]
   have a1:=h1 l[k] (lbE _)
   have a2:rl (z.getD l[k].1.toNat 0)<=B+1:=by
    by_cases hz:l[k].1.toNat<z.length
    ·have:=h2 _ (lbm (getD_some hz));omega
    ·rw [lbl,lbd (by omega)]
     have:=rl0
     show rl 0<=_
     omega
   have a3:=a86 l[k].2 (z.getD l[k].1.toNat 0)
   have a4:=a3Z (j0 (l.take k) z) (l[k].2*z.getD l[k].1.toNat 0)
   rw [lbU]
   omega
 intro k
 by_cases hk:k<=l.length
 ·have h3:=key k hk
  have h4:=lbT (B+4) hk
  omega
 ·have h3:=key l.length (lbQ _)
  rw [lbn (lbQ _)] at h3
  rw [lbn (by omega)];exact h3
theorem O0 {l:List (Int × Rat)} (h:A7 l):∀t ∈ l,rl t.2<=1:=by
 intro t ht
 obtain ⟨c,hc,hb⟩:=h t ht
 rw [hc,a7e]
 have h1:bl 1<=1:=S5 (by decide) (by decide)
 omega
theorem b1y {s:f7} {g:List (Int × Rat)} {n B:Nat} (h:H3 s g n B):∀v ∈ F9 s g,rl v<=B:=by
 intro v hv
 have hb:=a5T h
 have hn:=h.nn
 have h1:=h.b1
 obtain ⟨j,hj,rfl⟩:=a99 hv
 have hp:a0F (c8 s).length s.n.toNat (m8 s g):=Q3.p
 rw [hn] at hj hp ⊢
 rw [← b3i hp hj]
 have key:∀k,k<=(c8 s).length->rl (ptK n (m8 s g).O (m8 s g).V (fun _=>0) k j)<=B:=by
  intro k
  induction k with
  |zero=>intro _;have:=rl0;show rl 0<=_;omega
  |succ k ih=>
   intro hk
   rw [S2]
   simp only
   split
   ·exact hb.v k (by omega)
   ·exact ih (by omega)
 exact key _ (lbQ _)
theorem a4B {l:List (Int × Rat)} (h:A7 l):A7 (a0r l):=by
 intro t ht
 obtain ⟨u,hu,rfl⟩:=lbx.1 ht
 obtain ⟨c,hc,hb⟩:=h u hu
 refine ⟨-c,?_,by rw [b6K];exact hb⟩
 show u.2*((-1:Int):Rat)=((-c:Int):Rat)
 rw [hc]
 have e:((-c:Int):Rat)=-((c:Int):Rat):=by push_cast;rfl
 have e1:((-1:Int):Rat)=-1:=rfl
 rw [e,e1];grind
theorem L9 {n:Int}:∀{l:List (Int × Rat)} {last:Int},d6 last n l=true->d6 last n (a0r l)=true
 |[],_,_=>rfl
 |a::r,last,h=>by
  unfold d6 at h
  show d6 last n ((a.1,a.2*((-1:Int):Rat))::a0r r)=true
  unfold d6
  simp only [lbM,lbI] at h ⊢
  refine ⟨⟨⟨h.1.1.1,h.1.1.2⟩,fun e=>h.1.2 ?_⟩,L9 h.2⟩
  have e1:((-1:Int):Rat)=-1:=rfl
  rw [e1] at e
  grind
theorem b5S (l:List (Int × Rat)):(a0r l).length=l.length:=a1e _ _
theorem b3y {z:List Rat} (hz:∀v ∈ z,0<=v):∀l:List (Int × Rat),(∀ t ∈ l,0<=t.2)->0<=j0 l z:=by
 intro l hl
 have key:∀k,k<=l.length->0<=j0 (l.take k) z:=by
  intro k
  induction k with
  |zero=>intro _;rw [a7g];exact lb1
  |succ k ih=>
   intro hk
   have ih:=ih (by omega)
   rw [b17 (show k<l.length by omega),L8]
   have h1:=hl l[k] (lbE _)
   have h2:0<=z.getD l[k].1.toNat 0:=by
    by_cases hlt:l[k].1.toNat<z.length
    ·exact hz _ (lbm (getD_some hlt))
    ·rw [lbl,lbd (by omega)];exact lb1
   have h3:=lb0 h1 h2
   grind
 have:=key l.length (lbQ _)
 rwa [a4c] at this
theorem not_row {s:f7} {g:List (Int × Rat)} (hr:i7 s=true) (hz:U5 s []=.best):U5 s g=.best∨∃c,U5 s g=.col c:=by
 rcases a4M s g with h|⟨r,h⟩|h
 ·exact .inl h
 ·have h1:=(a2w hr rfl hz).1
  rw [b0s h] at h1;cases h1
 ·exact .inr h
def a5e (v:Rat):Prop:=∃z:Int,((1000:Nat):Rat)*v=((z:Int):Rat)∧z.natAbs<=2305843009213693952
def b9c (w:j6):Prop:=A7 w.terms∧a5e w.value
theorem a3c:a5e 0:=⟨0,by show _=(0:Rat);grind,by decide⟩
theorem b1A {x:Rat} (h:a5e x):a5e (-x):=by
 obtain ⟨z,h1,h2⟩:=h
 exact ⟨-z,by push_cast;rw [← h1];grind,by rw [a7u];exact h2⟩
theorem b4h {cs:List D7} {rs:List s8} {scale reading day:Int} {lo hi:Rat} (h:Q4 cs rs scale reading day=some (lo,hi)):a5e hi:=by
 unfold Q4 at h
 split at h
 ·cases h
 ·rename_i i hi
  obtain ⟨hb,c,hc,_,hcv⟩:=W9 hi
  have e:a3U cs i=c:=by unfold a3U;rw [hc];rfl
  rw [e] at h
  split at h
  ·cases h
  ·split at h
   ·rename_i hr
    injection h with h
    injection h with h1 h2
    rw [← h2]
    unfold Z2 a0d at hcv
    rw [a30] at hr
    simp only [lbM,lbI,a30] at hcv
    obtain ⟨⟨⟨⟨⟨⟨⟨h1,h2⟩,h3⟩,_⟩,h4⟩,h5⟩,h6⟩,h7⟩:=hcv
    have e1:0<=c.permille*reading:=lbZ (by omega) (by omega)
    have e2:c.permille*reading<=1000*1099511627776:=a0P (by omega) (by omega) (by omega) (by omega)
    have e3:0<=c.drift*(day - c.since):=lbZ (by omega) (by omega)
    have e4:c.drift*(day - c.since)<=10000000*100000:=a0P (by omega) (by omega) (by omega) (by omega)
    refine ⟨1000*reading+(c.permille*reading+1000*(c.grams+c.drift*(day - c.since))),?_,by omega⟩
    unfold a5U
    have e5:((1000:Nat):Rat)*Rat.divInt (c.permille*reading) 1000=((c.permille*reading:Int):Rat):=by
     rw [Rat.divInt_eq_div]
     have:((1000:Nat):Rat)=((1000:Int):Rat):=rfl
     rw [this]
     rw [Rat.div_def,←a9D,Rat.mul_comm (((1000:Int):Rat)),a9D,aV5 _ (by decide)];grind
    have e6:((1000:Nat):Rat)*((reading:Rat)+(Rat.divInt (c.permille*reading) 1000+((c.grams+c.drift*(day - c.since):Int):Rat)))=((1000:Nat):Rat)*(reading:Rat)+(((1000:Nat):Rat)*Rat.divInt (c.permille*reading) 1000+((1000:Nat):Rat)*((c.grams+c.drift*(day - c.since):Int):Rat)):=by grind
    rw [e6,e5];push_cast;rfl
   ·cases h
theorem af6 {c:Int} (h:bl c<=1):c.natAbs<=1048575:=by
 have h1:=N7 c.natAbs
 have h2:(dg c.natAbs).length<=1:=h
 have h3:pw (dg c.natAbs).length<=pw 1:=by
  have:(dg c.natAbs).length=0∨(dg c.natAbs).length=1:=by omega
  rcases this with h|h<;>rw [h]
  ·decide
  ·exact a5l _
 have h4:pw 1=1048576:=by decide
 omega
theorem b7s {b:Bool} {x:Rat} {c:Int} (h:x=((c:Int):Rat)):∃c':Int,U8 b x=((c':Int):Rat)∧c'.natAbs=c.natAbs:=by
 cases b with
 |false=>exact ⟨c,h,rfl⟩
 |true=>exact ⟨-c,by show -x=_;rw [h];push_cast;rfl,a7u c⟩
theorem b7a {s:f7} {g:List (Int × Rat)}:a1b (c8 s).length s.n.toNat (f8 s g):=⟨fun _ _=>rfl,fun _ _=>rfl⟩
theorem b1N {s:f7} {g:List (Int × Rat)} (hI:∀w ∈ s.rows,b9c w) (hg:A7 g):aY2 (c8 s).length s.n.toNat 1000 2305843009213693952 1048575 1048575 (f8 s g) (fun j=>-(B7 g j)) where
 k:=by decide
 v:=fun i hi=>by
  obtain ⟨f,hf⟩:∃f,(c8 s)[i]? =some f:=⟨_,lbf hi⟩
  obtain ⟨x,hx,_⟩:=Z9.1 (lbm hf)
  have h2:=(hI x (lbm hx)).2
  have hfd:(c8 s).getD i (0,false)=f:=by rw [lbl,hf];rfl
  have eV:(f8 s g).V i=U8 f.2 x.value:=by show a3q s ((c8 s).getD i (0,false))=_;rw [hfd];unfold a3q;rw [hx]
  rw [eV]
  cases f.2 with
  |false=>exact h2
  |true=>exact b1A h2
 a:=fun i j hi hj=>by
  obtain ⟨f,hf⟩:∃f,(c8 s)[i]? =some f:=⟨_,lbf hi⟩
  obtain ⟨x,hx,_⟩:=Z9.1 (lbm hf)
  have h1:=(hI x (lbm hx)).1
  have hfd:(c8 s).getD i (0,false)=f:=by rw [lbl,hf];rfl
  have eA:(f8 s g).A i j=U8 f.2 (B7 x.terms j):=by show a3j s ((c8 s).getD i (0,false)) j=_;rw [hfd];unfold a3j;rw [hx]
  rw [eA]
  obtain ⟨c,hc,hb⟩:=a6n h1 x.terms.length j
  obtain ⟨c',hc',hb'⟩:=b7s (b:=f.2) (x:=B7 x.terms j) hc
  exact ⟨c',hc',by rw [hb'];exact af6 hb⟩
 g:=fun j hj=>by
  obtain ⟨c,hc,hb⟩:=a6n hg g.length j
  exact ⟨-c,by rw [show B7 g j=((c:Int):Rat) from hc];push_cast;rfl,by rw [a7u];exact af6 hb⟩
 a1:=by decide
 ag:=by decide
def a0q (e:Ev):Nat->List Nat
 |0=>[]
 |k+1=>match e.moves[k]? with
  |some m=>if F4 e m.src=0 then a0q e k++[k] else a0q e k
  |none=>a0q e k
def a34 (e:Ev):List Nat:=a0q e e.moves.length
def aR6 (e:Ev) (i:Nat):Prop:=∃m,e.moves[i]? =some m∧F4 e m.src=0
theorem a4d {e:Ev} {i:Nat}:∀{k:Nat},i ∈ a0q e k↔i<k∧aR6 e i
 |0=>by simp [a0q]
 |k+1=>by
  have ih:=a4d (e:=e) (i:=i) (k:=k)
  unfold a0q
  cases hm:e.moves[k]? with
  |none=>
   simp only
   rw [ih]
   constructor
   ·rintro ⟨h1,h2⟩;exact ⟨by omega,h2⟩
   ·rintro ⟨h1,h2⟩
    refine ⟨?_,h2⟩
    obtain ⟨m,h3,_⟩:=h2
    by_cases h:i=k
    ·subst h;rw [hm] at h3;cases h3
    ·omega
  |some m=>
   simp only
   by_cases hk:F4 e m.src=0
   ·rw [if_pos hk,lbz,ih,List.mem_singleton]
    constructor
    ·rintro (⟨h1,h2⟩|h)
     ·exact ⟨by omega,h2⟩
     ·subst h;exact ⟨by omega,m,hm,hk⟩
    ·rintro ⟨h1,h2⟩
     by_cases h:i=k
     ·exact .inr h
     ·exact .inl ⟨by omega,h2⟩
   ·rw [if_neg hk,ih]
    constructor
    ·rintro ⟨h1,h2⟩;exact ⟨by omega,h2⟩
    ·rintro ⟨h1,h2⟩
     refine ⟨?_,h2⟩
     obtain ⟨m',h3,h4⟩:=h2
     by_cases h:i=k
     ·subst h;rw [hm] at h3;injection h3 with h3;subst h3;exact absurd h4 hk
     ·omega
theorem a9S {e:Ev} {i:Nat}:i ∈ a34 e↔aR6 e i:=by
 unfold a34
 rw [a4d]
 constructor
 ·exact fun h=>h.2
 ·intro h
  have h':=h
  obtain ⟨m,h1,_⟩:=h'
  exact ⟨(lbe.1 h1).1,h⟩
theorem a8o {e:Ev}:∀k,(a0q e k).length<=k
 |0=>by simp [a0q]
 |k+1=>by
  have ih:=a8o (e:=e) k
  unfold a0q
  split
  ·split
   ·simp;omega
   ·omega
  ·omega
def a2P (l:List Nat) (i:Nat):List j6:=(l.filter fun j=>decide (j≠i)).map fun j=>Y2 j 2 ((0:Int):Rat)
def aP2 (t:P1) (kind:Int) (i:Nat):f7:=⟨t.ev.moves.length,(a8k (a0s t) kind).rows++a2P (a34 t.ev) i⟩
theorem aM8 (l:List Nat) (i:Nat):(a2P l i).length<=l.length:=by unfold a2P;rw [lbr];exact lbt _ _
structure b9B (t:P1) (kind:Int) (i:Nat) (z:List Rat):Prop where
 p:b9w (a0s t) kind z
 o:∀j,aR6 t.ev j->j≠i->z.getD j 0=0
theorem aM4 {t:P1} {kind:Int} {i:Nat} (hm:t.ev.moves.length<=14) (hc:t.cleans.length<=50):i7 (aP2 t kind i)=true:=by
 have h:=a7s (t:=a0s t) (kind:=kind) hm (by simp [a0s]) hc
 unfold i7 at h ⊢
 simp only [lbM,lbI] at h ⊢
 obtain ⟨⟨⟨h1,h2⟩,h3⟩,h4⟩:=h
 have hl:=a4b (t:=a0s t) (kind:=kind) t.ev.moves.length
 have hl2:t.ev.moves.length*(2+(a0s t).finds.length+(a0s t).cleans.length)<=14*52:=lbS hm (by show 2+0+t.cleans.length<=52;omega)
 have hl3:=aM8 (a34 t.ev) i
 have hl4:=a8o (e:=t.ev) t.ev.moves.length
 refine ⟨⟨⟨h1,h2⟩,?_⟩,?_⟩
 ·show ((a0m (a0s t) kind t.ev.moves.length++a2P (a34 t.ev) i).length)<=6000
  rw [lbq]
  have:(a34 t.ev).length<=t.ev.moves.length:=hl4
  omega
 ·show ((a8k (a0s t) kind).rows++a2P (a34 t.ev) i).all (p5 (t.ev.moves.length:Nat))=true
  rw [a3a]
  have h5:(a8k (a0s t) kind).rows.all (p5 (t.ev.moves.length:Nat))=true:=h4
  rw [h5,N9,lbv]
  intro w hw
  obtain ⟨j,hj,rfl⟩:=lbx.1 hw
  have hj:=(a4d.1 (lby.1 hj).1).1
  unfold p5 Y2
  simp only [lbM,lbI]
  exact ⟨⟨a5J (by omega) (by omega) a3i,by decide⟩,by decide⟩
theorem alone_holds {t:P1} {kind:Int} {i:Nat} {z:List Rat} (ht:a3d t=0) (k0:0<=kind) (k1:kind<8) (hm:t.ev.moves.length<=14):g6 (aP2 t kind i) z=true↔b9B t kind i z:=by
 have hc:=(a49 ht).2.2.1
 have hb:=sys_holds (t:=a0s t) (kind:=kind) (z:=z) (b1U ht) k0 k1 hm
 have hr1:=aM4 (t:=t) (kind:=kind) (i:=i) hm hc
 have hr2:=a7s (t:=a0s t) (kind:=kind) hm (by simp [a0s]) hc
 have e:g6 (aP2 t kind i) z=(g6 (a8k (a0s t) kind) z && (a2P (a34 t.ev) i).all fun w=>N2 w z):=by
  unfold g6
  rw [hr1,hr2]
  show (true && decide ((z.length:Int)=(t.ev.moves.length:Nat)) && _ && ((a8k (a0s t) kind).rows++a2P (a34 t.ev) i).all _)=_
  rw [a3a]
  simp only [N9,Bool.and_assoc]
  rfl
 rw [e,lbM,hb]
 constructor
 ·rintro ⟨h1,h2⟩
  refine ⟨h1,fun j hj hji=>?_⟩
  exact a4r.1 (lbv.1 h2 (Y2 j 2 ((0:Int):Rat)) (lbx.2 ⟨j,lby.2 ⟨a9S.2 hj,lbH hji⟩,rfl⟩))
 ·rintro ⟨h1,h2⟩
  refine ⟨h1,lbv.2 fun w hw=>?_⟩
  obtain ⟨j,hj,rfl⟩:=lbx.1 hw
  have hj:=lby.1 hj
  exact a4r.2 (h2 j (a9S.1 hj.1) (lbL hj.2))
structure PtB (s:f7) (z:List Rat):Prop where
 v:∀v ∈ z,rl v<=40000
 S:∀w ∈ s.rows,∀k,rl (j0 (w.terms.take k) z)<=50000
 l:z.length<=1000000
theorem b39 (s:f7) (hb:ai5 s) (hr:i7 s=true) (Z:List Rat) (hp:PtB s Z):
 a8 Tryz.prog 144 [Q8 s,B4 (Z.map fz)] [] (d9 (g6 s Z)) []:=by
 have m1:(s.rows.map C0).length=s.rows.length:=by simp
 have m2:((Z.map fz).map n7).length=Z.length:=by simp
 have l1:=hb.n0
 have l2:=hp.l
 have lr:=S7 s hb
 rw [hr] at lr
 have pt:=b0E (Z.map fz) (by simpa using hp.l) (fun f hf=>by
  obtain ⟨x,hx,rfl⟩:=lbx.1 hf
  have:=hp.v x hx
  have a:=K0 x
  have b:=M3 x
  exact ⟨by show bl x.num<=_;omega,by show bl x.den<=_;omega⟩)
 rw [a7K] at pt
 by_cases hn:(Z.length:Int)≠s.n
 ·have e2:g6 s Z=false:=by unfold g6;rw [lbJ hn];simp
  rw [e2]
  (refine ac Tryz.func144 ?_;(conv=>whnf);repeat ((first|refine b0x ?_|refine zy ?_);conv=>whnf))
  repeat' (first|refine zx ?_|refine qp lr ?_|refine qp pt ?_|refine zd ?_ ?_<;>intro h<;>try omega|fail)<;>conv=>whnf
  all_goals first
   |omega
   |exact c9 rfl
 have hn:(Z.length:Int)=s.n:=by omega
 have e2:g6 s Z=(Z.all (fun v=>decide (0<=v)) && s.rows.all (fun w=>N2 w Z)):=by unfold g6;rw [hr,lbH hn];simp
 rw [e2]
 (refine ac Tryz.func144 ?_;(conv=>whnf);repeat ((first|refine b0x ?_|refine zy ?_);conv=>whnf))
 repeat' (first|refine zx ?_|refine qp lr ?_|refine qp pt ?_|refine zd ?_ ?_<;>intro h<;>try omega|fail)<;>conv=>whnf
 all_goals try omega
 refine g8 b9 (fun k=>([J,B4 (Z.map fz),S.c (C.t (T.ptr [ti s.n,R8 s.rows]))]++Jn 22++[B4 (Z.map fz),a7 .i64 Z.length,a7 .i64 k]++Jn 38,[])) Z.length (fun k=>(Z.take k).all (fun v=>decide (0<=v))=true) [] rfl
  ⟨rfl,rfl,trivial,⟨rfl,rfl,rfl,c7 (by simp),rfl,trivial⟩⟩ ?_
 intro k hk hI
 by_cases hlt:k<Z.length
 ·obtain ⟨x,hx⟩:∃x,Z[k]? =some x:=⟨_,lbf hlt⟩
  have bx:=hp.v x (lbm hx)
  have sg:=T8 x (by omega)
  have sn:=a94 (x:=x)
  conv=>whnf
  repeat' (first|refine zx ?_|refine qp sg ?_|refine f9 (a0y Z hx) ?_|refine zd ?_ ?_<;>intro h<;>try omega|fail)<;>conv=>whnf
  all_goals first
   |omega
   |(have h0:¬sgR x<0:=by omega
     exact ⟨hlt,by rw [D3 hx,hI];simpa using lb2.1 (fun h=>h0 (sn.2 h)),[],rfl,rfl,trivial,⟨rfl,rfl,rfl,rfl,rfl,trivial⟩⟩)
   |(have h0:sgR x<0:=by omega
     have hF:Z.all (fun v=>decide (0<=v))=false:=F8 hx (lbJ (a8f.2 (sn.1 h0)))
     refine c9 ?_;rw [hF];rfl)
 ·have hA:Z.all (fun v=>decide (0<=v))=true:=by rw [← hI,lbn (by omega)]
  rw [hA,N9]
  conv=>whnf
  repeat' (first|refine zx ?_|refine zd ?_ ?_<;>intro h<;>try omega|fail)<;>conv=>whnf
  all_goals try omega
  clear hI hlt hk
  refine g8 b9 (fun k=>([J,B4 (Z.map fz)]++Jn 34++[S.c (C.t (R8 s.rows)),a7 .i64 s.rows.length,a7 .i64 k]++Jn 27,[])) s.rows.length (fun k=>(s.rows.take k).all (fun w=>N2 w Z)=true) [] rfl
   ⟨rfl,rfl,trivial,⟨rfl,rfl,c7 (by simp),rfl,trivial⟩⟩ ?_
  intro k hk hI
  by_cases hlt:k<s.rows.length
  ·obtain ⟨w,hw⟩:∃w,s.rows[k]? =some w:=⟨_,lbf hlt⟩
   obtain ⟨b1,b2,b3⟩:=hb.t w (lbm hw)
   have hrw:p5 s.n w=true:=by
    unfold i7 at hr
    simp only [lbM,lbv] at hr
    exact hr.2 w (lbm hw)
   have hrt:d6 (-1) Z.length w.terms=true:=by
    unfold p5 at hrw
    simp only [lbM] at hrw
    rw [hn];exact hrw.1.1
   have hS:=hp.S w (lbm hw)
   have va:=aJ9 w.terms Z (by omega) (fun t ht=>by have:=b2 t ht;omega) hp.v (fun k=>by have:=hS k;omega) (by omega) hrt
   have bv:=hS w.terms.length
   rw [lbn (lbQ _)] at bv
   have c:=Q5 (j0 w.terms Z) w.value (by omega) (by omega)
   have k1:=ay0 (x:=j0 w.terms Z) (y:=w.value)
   have k2:=a2E (x:=j0 w.terms Z) (y:=w.value)
   have hro:=a16 (w:=w) (z:=Z)
   rw [← k1,←k2] at hro
   generalize a1G (j0 w.terms Z) w.value=U at c hro
   by_cases hok:(U<0->w.kind=1)∧(U > 0->w.kind=0)
   ·have hT:=hro.2 hok
    obtain ⟨q1,q2⟩:=hok
    conv=>whnf
    repeat' (first|refine zx ?_|refine qp va ?_|refine qp c ?_|refine f9 hw ?_|refine zd ?_ ?_<;>intro h<;>try omega|fail)<;>conv=>whnf
    all_goals first
     |omega
     |exact ⟨hlt,by rw [D3 hw,hI,hT];rfl,[],rfl,rfl,trivial,⟨rfl,rfl,rfl,rfl,trivial⟩⟩
   ·have hF:N2 w Z=false:=by rw [← lbP];exact fun h=>hok (hro.1 h)
    rw [F8 hw hF]
    have hor:(U<0∧w.kind≠1)∨(U > 0∧w.kind≠0):=by omega
    clear hro hok
    conv=>whnf
    repeat' (first|refine zx ?_|refine qp va ?_|refine qp c ?_|refine f9 hw ?_|refine zd ?_ ?_<;>intro h<;>try omega|fail)<;>conv=>whnf
    all_goals first
     |omega
     |exact c9 rfl
  ·rw [lbn (by omega)] at hI
   rw [hI]
   conv=>whnf
   repeat' (first|refine zx ?_|refine zd ?_ ?_<;>intro h<;>try omega|fail)<;>conv=>whnf
   all_goals first
    |omega
    |exact c9 rfl
def yN (Y:List Rat) (i:Nat):Rat:=Y.getD i 0
theorem b4A {Y:List Rat} {k:Nat} {x:Rat} (h:Y[k]? =some x):yN Y k=x:=by unfold yN;rw [lbl,h];rfl
def sgB (s:f7) (Y:List Rat) (i:Nat):Bool:=!((decide ((o8 s i).kind=0) && decide (yN Y i<0)) || (decide ((o8 s i).kind=1) && decide (0<yN Y i)))
def a3r (s:f7) (Y:List Rat):Bool:=decide (Y.length=s.rows.length) && (List.range s.rows.length).all (sgB s Y)
theorem b1u {n k:Nat} (h:k<n):(List.range n)[k]? =some k:=by simp [h]
theorem aa4 {f:Nat->Bool} {k:Nat}:(List.range (k+1)).all f=((List.range k).all f && f k):=by rw [a7U,a3a];simp
theorem au7 {f:Nat->Bool} {n k:Nat} (h:k<n) (hf:f k=false):(List.range n).all f=false:=F8 (b1u h) hf
theorem b65 {n:Int} {l:List (Int × Rat)} (hr:d6 (-1) n l=true) {i:Nat} {t:Int × Rat} (ht:l[i]? =some t):∀k,i<k->k<=l.length->K2 l k t.1.toNat=t.2:=by
 intro k hi hk
 induction k with
 |zero=>omega
 |succ k ih=>
  obtain ⟨u,hu⟩:∃u,l[k]? =some u:=⟨_,lbf (by omega)⟩
  rw [I9 hu]
  simp only
  by_cases h:i=k
  ·subst h
   rw [ht] at hu;injection hu with hu;subst hu
   rw [if_pos rfl]
  ·have:=a1D hr i k t u (by omega) ht hu
   have:=n9 hr t (lbm ht)
   rw [if_neg (by omega)]
   exact ih (by omega) (by omega)
theorem b6v {n:Int} {l:List (Int × Rat)} (hr:d6 (-1) n l=true) {i:Nat} {t:Int × Rat} (ht:l[i]? =some t):B7 l t.1.toNat=t.2:=
 b65 hr ht _ (lbe.1 ht).1 (lbQ _)
def a0M (s:f7) (y:Nat->Rat) (k:Nat):List (Int × Rat):=((List.range k).filter fun v=>decide (L6 s y v≠0)).map fun v:Nat=>((v:Int),L6 s y v)
theorem ao8 (s:f7) (y:Nat->Rat) (k:Nat):a0M s y (k+1)=if L6 s y k=0 then a0M s y k else a0M s y k++[((k:Int),L6 s y k)]:=by
 unfold a0M
 rw [a7U,lb7,lbC]
 by_cases h:L6 s y k=0
 ·rw [if_pos h];simp [h]
 ·rw [if_neg h];simp [h]
theorem b2C (s:f7) (y:Nat->Rat) (k:Nat):(a0M s y k).length<=k:=by
 unfold a0M
 rw [lbr]
 exact lbR (lbt _ _) (by simp)
def Z8 (s:f7) (y:Nat->Rat) (l k:Nat):Rat:=i6 (fun i=>y i*B7 (o8 s i).terms l) k
def a3s (s:f7) (y:Nat->Rat) (k:Nat):Rat:=i6 (fun i=>y i*(o8 s i).value) k
structure b77 (s:f7) (Y:List Rat):Prop where
 y:∀v ∈ Y,rl v<=40000
 n:∀l k,rl (Z8 s (yN Y) l k)<=50000
 v:∀k,rl (a3s s (yN Y) k)<=50000
 l:Y.length=s.rows.length
 m:s.rows.length<=1000000
theorem al0 {n:Int}:∀{l:List (Int × Rat)} {last:Int},l.Pairwise (fun a b=>a.1<b.1)->(∀ t ∈ l,last<t.1∧t.1<n∧t.2≠0)->d6 last n l=true
 |[],_,_,_=>rfl
 |a::r,last,h1,h2=>by
  unfold d6
  simp only [lbM,lbI]
  obtain ⟨p1,p2⟩:=a9G.1 h1
  have:=h2 a (K9 ..)
  exact ⟨⟨⟨this.1,this.2.1⟩,this.2.2⟩,al0 p2 fun t ht=>⟨p1 t ht,(h2 t (O6 _ ht)).2⟩⟩
theorem a6v {s:f7} {y:Nat->Rat} {k:Nat} {t:Int × Rat}:t ∈ a0M s y k↔∃v:Nat,v<k∧L6 s y v≠0∧t=((v:Int),L6 s y v):=by
 unfold a0M
 rw [lbx]
 constructor
 ·rintro ⟨v,hv,rfl⟩
  rw [lby,lbB] at hv
  exact ⟨v,hv.1,by simpa using hv.2,rfl⟩
 ·rintro ⟨v,h1,h2,rfl⟩
  exact ⟨v,by rw [lby,lbB];exact ⟨h1,by simpa using h2⟩,rfl⟩
theorem a5q (s:f7) (y:Nat->Rat) (k:Nat):d6 (-1) (k:Int) (a0M s y k)=true:=by
 refine al0 ?_ fun t ht=>?_
 ·unfold a0M
  rw [List.pairwise_map]
  exact ((List.pairwise_lt_range (n:=k)).filter _).imp fun {a b} h=>by show (a:Int)<b;omega
 ·obtain ⟨v,h1,h2,rfl⟩:=a6v.1 ht
  exact ⟨by simp only;omega,by simp only;omega,h2⟩
theorem aK6 {s:f7} {y:Nat->Rat} {k v:Nat} (hv:v<k):B7 (a0M s y k) v=L6 s y v:=by
 by_cases h:L6 s y v=0
 ·rw [h]
  refine a0g _ fun i t _ ht=>?_
  obtain ⟨u,h1,h2,rfl⟩:=a6v.1 (lbm ht)
  intro e
  have e:u=v:=by simpa using e
  exact h2 (e ▸ h)
 ·obtain ⟨i,hi,he⟩:=Y0 (a6v.2 ⟨v,hv,h,rfl⟩)
  have:=b6v (a5q s y k) (i:=i) (t:=((v:Int),L6 s y v)) (by rw [lbf hi,he])
  simpa using this
def a8O (s:f7) (g:List (Int × Rat)) (Y:List Rat):Bool:=a3r s Y && d6 (-1) s.n g && (List.range s.n.toNat).all fun v=>decide (L6 s (yN Y) v<=B7 g v)
def aR4 (s:f7) (g:List (Int × Rat)) (Y:List Rat):S:=if a8O s g Y=true then .tup [frS (fz (a4Y s (yN Y))),d9 true] else .tup [frS M6,d9 false]
def aT5 (s:f7) (Y:List Rat):Bool:=a8O s [] Y && decide (0<a4Y s (yN Y))
structure b8h (z:List Fr):Prop where
 l:z.length<=1000000
 d:∀f ∈ z,f.p.dl.length<=200000∧f.q.dl.length<=200000
theorem b3r {Z:List Rat} (hl:Z.length<=1000000) (h:∀v ∈ Z,rl v<=200000):b8h (Z.map fz):=⟨by simpa using hl,fun f hf=>by
 obtain ⟨x,hx,rfl⟩:=lbx.1 hf
 have:=h x hx
 have a:=K0 x
 have b:=M3 x
 exact ⟨by show bl x.num<=_;omega,by show bl x.den<=_;omega⟩⟩
theorem b2V (s:f7) (hb:ai5 s) (hr:i7 s=true) (y:List Fr) (hy:b8h y):
 a8 Tryz.prog 235 [Q8 s,B4 y] [] (d9 (decide (y.length=s.rows.length) && y.all R4)) []:=by
 have m1:(s.rows.map C0).length=s.rows.length:=by simp
 have m2:(y.map n7).length=y.length:=by simp
 have l1:=hb.n0
 have l2:=hy.l
 have lr:=S7 s hb
 rw [hr] at lr
 by_cases hn:y.length≠s.rows.length
 ·rw [lbJ hn,aB5]
  (refine ac Tryz.func235 ?_;(conv=>whnf);repeat ((first|refine b0x ?_|refine zy ?_);conv=>whnf))
  repeat' (first|refine zx ?_|refine qp lr ?_|refine zd ?_ ?_<;>intro h<;>try omega|fail)<;>conv=>whnf
  all_goals first
   |omega
   |exact c9 rfl
 have hn:y.length=s.rows.length:=by omega
 rw [lbH hn,N9]
 (refine ac Tryz.func235 ?_;(conv=>whnf);repeat ((first|refine b0x ?_|refine zy ?_);conv=>whnf))
 repeat' (first|refine zx ?_|refine qp lr ?_|refine zd ?_ ?_<;>intro h<;>try omega|fail)<;>conv=>whnf
 all_goals try omega
 refine g8 b9 (fun k=>(Jn 18++[B4 y,a7 .i64 y.length,a7 .i64 k]++Jn 7,[])) y.length (fun k=>(y.take k).all R4=true) [] rfl
  ⟨rfl,rfl,trivial,⟨rfl,c7 (by simp),rfl,trivial⟩⟩ ?_
 intro k hk hI
 by_cases hlt:k<y.length
 ·obtain ⟨x,hx⟩:∃x,y[k]? =some x:=⟨_,lbf hlt⟩
  obtain ⟨d1,d2⟩:=hy.d x (lbm hx)
  have rr:=a6z x d1 d2
  cases hq:R4 x with
  |true=>
   rw [hq] at rr
   conv=>whnf
   repeat' (first|refine zx ?_|refine qp rr ?_|refine f9 hx ?_|refine zd ?_ ?_<;>intro h<;>try omega|fail)<;>conv=>whnf
   all_goals first
    |omega
    |exact ⟨hlt,by rw [D3 hx,hI,hq];rfl,[],rfl,rfl,trivial,⟨rfl,rfl,rfl,trivial⟩⟩
  |false=>
   rw [hq] at rr
   rw [F8 hx hq]
   conv=>whnf
   repeat' (first|refine zx ?_|refine qp rr ?_|refine f9 hx ?_|refine zd ?_ ?_<;>intro h<;>try omega|fail)<;>conv=>whnf
   all_goals first
    |omega
    |exact c9 rfl
 ·rw [lbn (by omega)] at hI
  rw [hI]
  conv=>whnf
  repeat' (first|refine zx ?_|refine zd ?_ ?_<;>intro h<;>try omega|fail)<;>conv=>whnf
  all_goals first
   |omega
   |exact c9 rfl
theorem b05 (s:f7) (hb:ai5 s) (hr:i7 s=true) (Y:List Rat) (hl:Y.length<=1000000) (hy:∀v ∈ Y,rl v<=200000):
 a8 Tryz.prog 235 [Q8 s,B4 (Y.map fz)] [] (d9 (decide (Y.length=s.rows.length))) []:=by
 have h:=b2V s hb hr (Y.map fz) (b3r hl hy)
 rw [a7K,a7M,lbr] at h
 exact h
theorem aG4 (s:f7) (hb:ai5 s) (hr:i7 s=true) (y:List Fr) (hy:b8h y) (h:(decide (y.length=s.rows.length) && y.all R4)=false):
 a8 Tryz.prog 172 [Q8 s,B4 y] [] (d9 false) []:=by
 have mu:=b2V s hb hr y hy
 rw [h] at mu
 (refine ac Tryz.func172 ?_;(conv=>whnf);repeat ((first|refine b0x ?_|refine zy ?_);conv=>whnf))
 repeat' (first|refine zx ?_|refine qp mu ?_|refine zd ?_ ?_<;>intro h<;>try omega|fail)<;>conv=>whnf
 all_goals exact c9 rfl
theorem b1O (s:f7) (hb:ai5 s) (hr:i7 s=true) (Y:List Rat) (hl:Y.length<=1000000) (hy:∀v ∈ Y,rl v<=50000):
 a8 Tryz.prog 172 [Q8 s,B4 (Y.map fz)] [] (d9 (a3r s Y)) []:=by
 have m1:(s.rows.map C0).length=s.rows.length:=by simp
 have m2:((Y.map fz).map n7).length=Y.length:=by simp
 have l1:=hb.n0
 have mu:=b05 s hb hr Y hl (fun v hv=>by have:=hy v hv;omega)
 by_cases hn:Y.length≠s.rows.length
 ·have e2:a3r s Y=false:=by unfold a3r;rw [lbJ hn];simp
  rw [e2]
  exact aG4 s hb hr (Y.map fz) (b3r hl (fun v hv=>by have:=hy v hv;omega)) (by rw [lbJ (by simpa using hn)];rfl)
 have hn:Y.length=s.rows.length:=by omega
 have e2:a3r s Y=(List.range s.rows.length).all (sgB s Y):=by unfold a3r;rw [lbH hn];simp
 rw [e2]
 rw [lbH hn] at mu
 (refine ac Tryz.func172 ?_;(conv=>whnf);repeat ((first|refine b0x ?_|refine zy ?_);conv=>whnf))
 repeat' (first|refine zx ?_|refine qp mu ?_|refine zd ?_ ?_<;>intro h<;>try omega|fail)<;>conv=>whnf
 refine g8 b9 (fun k=>([J,J,S.c (C.t (T.ptr [ti s.n,R8 s.rows])),J,J,J,J,J,J,J,J,J,B4 (Y.map fz),a7 .i64 Y.length,a7 .i64 k]++Jn 21,[])) Y.length (fun k=>(List.range k).all (sgB s Y)=true) [] rfl
  ⟨rfl,rfl,trivial,⟨rfl,rfl,c7 (by simp),rfl,trivial⟩⟩ ?_
 intro k hk hI
 by_cases hlt:k<Y.length
 ·obtain ⟨x,hx⟩:∃x,Y[k]? =some x:=⟨_,lbf hlt⟩
  obtain ⟨w,hw⟩:∃w,s.rows[k]? =some w:=⟨_,lbf (by omega)⟩
  have bx:=hy x (lbm hx)
  have sg:=T8 x (by omega)
  have es:sgB s Y k=decide ((w.kind=0->¬sgR x<0)∧(w.kind=1->¬sgR x > 0)):=by
   unfold sgB
   rw [U7 hw,b4A hx,aw8,decide_eq_true_iff,b8b,b8H]
   simp
   grind
  generalize sgR x=U at sg es
  by_cases hok:(w.kind=0->¬U<0)∧(w.kind=1->¬U > 0)
  ·rw [lbH hok] at es
   obtain ⟨q1,q2⟩:=hok
   conv=>whnf
   repeat' (first|refine zx ?_|refine qp sg ?_|refine f9 (a0y Y hx) ?_|refine f9 hw ?_|refine zd ?_ ?_<;>intro h<;>try omega|fail)<;>conv=>whnf
   all_goals first
    |omega
    |exact ⟨hlt,by rw [aa4,hI,es];rfl,[],rfl,rfl,trivial,⟨rfl,rfl,rfl,rfl,trivial⟩⟩
  ·rw [lbJ hok] at es
   rw [au7 (n:=s.rows.length) (by omega) es]
   have hor:(w.kind=0∧U<0)∨(w.kind=1∧U > 0):=by omega
   clear hok
   conv=>whnf
   repeat' (first|refine zx ?_|refine qp sg ?_|refine f9 (a0y Y hx) ?_|refine f9 hw ?_|refine zd ?_ ?_<;>intro h<;>try omega|fail)<;>conv=>whnf
   all_goals first
    |omega
    |exact c9 rfl
 ·have hke:k=s.rows.length:=by omega
  subst hke
  rw [hI]
  conv=>whnf
  repeat' (first|refine zx ?_|refine zd ?_ ?_<;>intro h<;>try omega|fail)<;>conv=>whnf
  all_goals first
   |omega
   |exact c9 rfl
theorem b4I (a b c:Rat) (ha:rl a<=60000) (hb:rl b<=50000) (hc:rl c<=200):a8 Tryz.prog 236 [frS (fz a),frS (fz b),frS (fz c)] [] (frS (fz (a+b*c))) []:=by
 have l:=a86 b c
 have mu:=az2 b c (by omega) (by omega)
 have ad:=a4o a (b*c) (by omega) (by omega)
 (refine ac Tryz.func236 ?_;(conv=>whnf);repeat ((first|refine b0x ?_|refine zy ?_);conv=>whnf))
 repeat' (first|refine zx ?_|refine qp mu ?_|refine qp ad ?_|refine qp 5 ?_|refine qp 4 ?_|refine bl0 [5] ?_|refine bl0 [4] ?_|refine zd ?_ ?_<;>intro h<;>try omega|fail)<;>conv=>whnf
 all_goals first
  |exact b0C rfl
def a8U (s:f7) (y:Nat->Rat) (i k:Nat):Nat->Rat:=fun v=>Z8 s y v i+y i*K2 (o8 s i).terms k v
theorem b1Q (s:f7) (y:Nat->Rat) (i:Nat):a8U s y i 0=fun v=>Z8 s y v i:=by
 funext v;show _+_*(0:Rat)=_;grind
theorem b4F (s:f7) (y:Nat->Rat) (i:Nat):a8U s y i (o8 s i).terms.length=fun v=>Z8 s y v (i+1):=rfl
theorem b1M {s:f7} {y:Nat->Rat} {i k:Nat} {n:Int} {t:Int × Rat} (hr:d6 (-1) n (o8 s i).terms=true) (ht:(o8 s i).terms[k]? =some t):
 a8U s y i k t.1.toNat=Z8 s y t.1.toNat i∧(fun j=>if j=t.1.toNat then Z8 s y t.1.toNat i+y i*t.2 else a8U s y i k j)=a8U s y i (k+1):=by
 have z:K2 (o8 s i).terms k t.1.toNat=0:=a0g _ fun a u ha hu=>by
  have h1:=a1D hr a k u t ha hu ht
  have h2:=n9 hr u (lbm hu)
  have h3:=n9 hr t (lbm ht)
  omega
 refine ⟨by unfold a8U;rw [z];grind,?_⟩
 funext j
 unfold a8U
 rw [I9 ht]
 simp only
 by_cases h:j=t.1.toNat
 ·subst h;rw [if_pos rfl,if_pos rfl]
 ·rw [if_neg h,if_neg h]
theorem b97 (s:f7) (hb:ai5 s) (hr:i7 s=true) (Y:List Rat) (hq:b77 s Y) (hn1:s.n<=1000):
 a8 Tryz.prog 173 [Q8 s,B4 (Y.map fz)] [] (.tup [j1 (a0M s (yN Y) s.n.toNat),frS (fz (a4Y s (yN Y)))]) []:=by
 have m1:(s.rows.map C0).length=s.rows.length:=by simp
 have m2:((Y.map fz).map n7).length=Y.length:=by simp
 have l1:=hb.n0
 have hn:=hq.l
 have hm:=hq.m
 have h0n:=(O9 hr)
 obtain ⟨n,hnn⟩:∃n:Nat,s.n.toNat=n:=⟨_,rfl⟩
 have en:s.n=n:=by omega
 have mu:=b05 s hb hr Y (by omega) (fun v hv=>by have:=hq.y v hv;omega)
 rw [lbH hn] at mu
 have i0:=H4 0 (by decide) (by decide)
 rw [hnn]
 rw [show Q8 s=.agg [.t (ti (n:Int)),.t (R8 s.rows)] by rw [← en]] at mu ⊢
 (refine ac Tryz.func173 ?_;(conv=>whnf);repeat ((first|refine b0x ?_|refine zy ?_);conv=>whnf))
 repeat' (first|refine zx ?_|refine qp mu ?_|refine a8F (by omega) (by omega) (by omega) (by decide) ?_|refine zd ?_ ?_<;>intro h<;>try omega|fail)<;>conv=>whnf
 refine g8 b9 (fun k=>([J,B4 (Y.map fz),S.c (C.t (T.ptr [ti (n:Int),R8 s.rows])),J,J,S.c (C.ptr 0 0 0),S.c (C.own 1 0 n true)]++Jn 18++[a7 .i64 n,a7 .i64 k]++Jn 72,[frB M6,flB (pZ k n)])) n (fun _=>True) [some 0,some 1] trivial
  ⟨rfl,rfl,⟨⟨rfl,rfl,rfl,.inr ⟨⟨rfl,rfl,rfl,rfl,trivial⟩,trivial⟩⟩,⟨rfl,rfl,rfl,.inr (a6P ?_ ?_)⟩,trivial⟩,⟨rfl,rfl,⟨rfl,rfl,rfl⟩,⟨rfl,rfl,by omega,fun h=>h⟩,c7 (by omega),c7 rfl,trivial⟩⟩ ?_
 ·simp [N4,toC,af3]
 ·intro i x y hx hy
  simp only [N4,lbk] at hx
  split at hx
  ·rename_i hi
   injection hx with hx
   subst hx
   have hy:(toC ((pZ 0 n).map n7))[i]? =some y:=hy
   rw [toC,lba,lba,a7X (by omega),if_neg (by omega)] at hy
   injection hy with hy
   subst hy
   exact ⟨rfl,rfl,rfl,rfl,trivial⟩
  ·cases hx
 intro k hk _
 by_cases hlt:k<n
 ·obtain ⟨pf,hpf⟩:∃pf,(pZ k n)[k]? =some pf:=⟨_,a7X hlt⟩
  have gp:(pZ k n)[0+(k:Int).toNat]? =some pf:=by rw [D8,show (k:Int).toNat=k by omega];exact hpf
  have eM:0+(k:Int).toNat=k:=by omega
  conv=>whnf
  repeat' (first|refine zx ?_|refine qp i0 ?_|refine o7 gp ?_|refine zd ?_ ?_<;>intro h<;>try omega|fail)<;>conv=>whnf
  all_goals first
   |omega
   |(refine ⟨hlt,trivial,[some 0,some 1],rfl,rfl,⟨⟨rfl,rfl,rfl,.inr ⟨⟨rfl,rfl,rfl,rfl,trivial⟩,trivial⟩⟩,b7 (rows:=(pZ (k+1) n).map n7) rfl rfl rfl ?_ rfl,trivial⟩,⟨rfl,rfl,⟨rfl,rfl,rfl⟩,⟨rfl,rfl,rfl,fun h=>h⟩,rfl,c7 (by omega),trivial⟩⟩
     have e:=K7 (row:=pZ k n) (y:=fz 0) eM
     rw [b2K hlt] at e
     exact congrArg Blk.rows e)
 have hke:k=n:=by omega
 subst hke
 conv=>whnf
 repeat' (first|refine zx ?_|refine qp i0 ?_|refine zd ?_ ?_<;>intro h<;>try omega|fail)<;>conv=>whnf
 all_goals try omega
 refine g8 b9 (fun i=>([J,J,S.c (C.t (T.ptr [ti (k:Int),R8 s.rows])),J,J,S.c (C.ptr 0 0 0),S.c (C.own 1 0 k true),J,S.c (C.ptr 2 0 0)]++Jn 26++[B4 (Y.map fz),a7 .i64 Y.length,a7 .i64 i]++Jn 61,[frB M6,flB (rF k fun v=>Z8 s (yN Y) v i),frB (fz (a3s s (yN Y) i))])) Y.length (fun _=>True) [some 0,some 1,some 2] trivial
  ⟨rfl,rfl,⟨⟨rfl,rfl,rfl,.inr ⟨⟨rfl,rfl,rfl,rfl,trivial⟩,trivial⟩⟩,b7 (rows:=(rF k fun _=>0).map n7) rfl rfl rfl (by rw [← b3m]) rfl,⟨rfl,rfl,rfl,.inl ⟨rfl,D4 _⟩⟩,trivial⟩,⟨rfl,⟨rfl,rfl,rfl⟩,⟨rfl,rfl,rfl,fun h=>h⟩,⟨rfl,rfl,rfl⟩,rfl,c7 (by simp),rfl,trivial⟩⟩ ?_
 intro i hi _
 by_cases hil:i<Y.length
 ·obtain ⟨x,hx⟩:∃x,Y[i]? =some x:=⟨_,lbf hil⟩
  obtain ⟨w,hw⟩:∃w,s.rows[i]? =some w:=⟨_,lbf (by omega)⟩
  obtain ⟨b1,b2,b3⟩:=hb.t w (lbm hw)
  have hrt:=(a0n hr hw).1
  have bx:=hq.y x (lbm hx)
  have eyx:yN Y i=x:=b4A hx
  have erw:o8 s i=w:=U7 hw
  have mv:=hq.v i
  have sg:=T8 x (by omega)
  have sz:=a2J (x:=x)
  have pv:=b4I (a3s s (yN Y) i) x w.value (by omega) (by omega) b3
  have ev:a3s s (yN Y) i+x*w.value=a3s s (yN Y) (i+1):=by
   show _=a3s s (yN Y) i+yN Y i*(o8 s i).value
   rw [erw,eyx]
  rw [ev] at pv
  by_cases hx0:x=0
  ·have hs:=sz.2 hx0
   have e1:(fun v=>Z8 s (yN Y) v (i+1))=fun v=>Z8 s (yN Y) v i:=by
    funext v
    show Z8 s (yN Y) v i+yN Y i*_=_
    rw [eyx,hx0];grind
   have e2:a3s s (yN Y) (i+1)=a3s s (yN Y) i:=by
    show a3s s (yN Y) i+yN Y i*_=_
    rw [eyx,hx0];grind
   rw [e1,e2]
   conv=>whnf
   repeat' (first|refine zx ?_|refine qp sg ?_|refine f9 (a0y Y hx) ?_|refine zd ?_ ?_<;>intro h<;>try omega|fail)<;>conv=>whnf
   all_goals first
    |omega
    |exact ⟨hil,trivial,[some 0,some 1,some 2],rfl,rfl,⟨⟨rfl,rfl,rfl,.inr ⟨⟨rfl,rfl,rfl,rfl,trivial⟩,trivial⟩⟩,g7 (c6 _),⟨rfl,rfl,rfl,.inl ⟨rfl,D4 _⟩⟩,trivial⟩,⟨rfl,⟨rfl,rfl,rfl⟩,⟨rfl,rfl,rfl,fun h=>h⟩,⟨rfl,rfl,rfl⟩,rfl,rfl,c7 (by omega),trivial⟩⟩
  ·have hs:sgR x≠0:=fun h=>hx0 (sz.1 h)
   have m4:(w.terms.map i8).length=w.terms.length:=by simp
   conv=>whnf
   repeat' (first|refine zx ?_|refine qp sg ?_|refine f9 (a0y Y hx) ?_|refine f9 hw ?_|refine zd ?_ ?_<;>intro h<;>try omega|fail)<;>conv=>whnf
   all_goals try omega
   refine g8 b9 (fun j=>([J,J,S.c (C.t (T.ptr [ti (k:Int),R8 s.rows])),J,J,S.c (C.ptr 0 0 0),S.c (C.own 1 0 k true),J,S.c (C.ptr 2 0 0),a7 .i64 i,S.c (C.ptr 3 0 0)]++Jn 24++[B4 (Y.map fz),a7 .i64 Y.length,a7 .i64 i]++Jn 12++[j1 w.terms,a7 .i64 w.terms.length,a7 .i64 j]++Jn 46,[frB M6,flB (rF k (a8U s (yN Y) i j)),frB (fz (a3s s (yN Y) i)),frB (fz x)])) w.terms.length (fun _=>True) [some 0,some 1,some 2,some 3] trivial
    ⟨rfl,rfl,⟨⟨rfl,rfl,rfl,.inr ⟨⟨rfl,rfl,rfl,rfl,trivial⟩,trivial⟩⟩,b7 (rows:=(rF k fun v=>Z8 s (yN Y) v i).map n7) rfl rfl rfl rfl (by rw [b1Q]),⟨rfl,rfl,rfl,.inl ⟨rfl,D4 _⟩⟩,⟨rfl,rfl,rfl,.inl ⟨rfl,D4 _⟩⟩,trivial⟩,⟨rfl,⟨rfl,rfl,rfl⟩,⟨rfl,rfl,rfl,fun h=>h⟩,⟨rfl,rfl,rfl⟩,rfl,⟨rfl,rfl,rfl⟩,rfl,rfl,rfl,rfl,c7 (by simp),rfl,trivial⟩⟩ ?_
   intro j hj _
   by_cases hjl:j<w.terms.length
   ·obtain ⟨t,ht⟩:∃t,w.terms[j]? =some t:=⟨_,lbf hjl⟩
    have tm:=n9 hrt t (lbm ht)
    have tb:=b2 t (lbm ht)
    obtain ⟨p1,p2⟩:=b1M (s:=s) (y:=yN Y) (i:=i) (k:=j) (n:=(s.n.toNat:Nat)) (t:=t) (by rw [erw];exact hrt) (by rw [erw];exact ht)
    have bm:=hq.n t.1.toNat i
    have ad:=b4I (Z8 s (yN Y) t.1.toNat i) x t.2 (by omega) (by omega) tb
    have hv:t.1.toNat<k:=by omega
    have g1:(rF k (a8U s (yN Y) i j))[0+t.1.toNat]? =some (fz (Z8 s (yN Y) t.1.toNat i)):=by rw [D8,I1 hv,p1]
    have eM:0+t.1.toNat=t.1.toNat:=by omega
    rw [eyx] at p2
    conv=>whnf
    repeat' (first|refine zx ?_|refine qp ad ?_|refine f9 ht ?_|refine o7 g1 ?_|refine zd ?_ ?_<;>intro h<;>try omega|fail)<;>conv=>whnf
    all_goals first
     |omega
     |(refine ⟨hjl,trivial,[some 0,some 1,some 2,some 3],rfl,rfl,⟨⟨rfl,rfl,rfl,.inr ⟨⟨rfl,rfl,rfl,rfl,trivial⟩,trivial⟩⟩,b7 (rows:=(rF k (a8U s (yN Y) i (j+1))).map n7) rfl rfl rfl ?_ rfl,⟨rfl,rfl,rfl,.inl ⟨rfl,D4 _⟩⟩,⟨rfl,rfl,rfl,.inl ⟨rfl,D4 _⟩⟩,trivial⟩,⟨rfl,⟨rfl,rfl,rfl⟩,⟨rfl,rfl,rfl,fun h=>h⟩,⟨rfl,rfl,rfl⟩,rfl,⟨rfl,rfl,rfl⟩,rfl,rfl,rfl,rfl,rfl,c7 (by omega),trivial⟩⟩
       have e:=K7 (row:=rF k (a8U s (yN Y) i j)) (y:=fz (Z8 s (yN Y) t.1.toNat i+x*t.2)) eM
       rw [X9 hv,p2] at e
       exact congrArg Blk.rows e)
   ·have hje:j=w.terms.length:=by omega
    subst hje
    have e3:a8U s (yN Y) i w.terms.length=fun v=>Z8 s (yN Y) v (i+1):=by rw [← erw];exact b4F s (yN Y) i
    rw [e3]
    conv=>whnf
    repeat' (first|refine zx ?_|refine qp pv ?_|refine f9 hw ?_|refine zd ?_ ?_<;>intro h<;>try omega|fail)<;>conv=>whnf
    all_goals first
     |omega
     |exact ⟨hil,trivial,[some 0,some 1,some 2],rfl,rfl,⟨⟨rfl,rfl,rfl,.inr ⟨⟨rfl,rfl,rfl,rfl,trivial⟩,trivial⟩⟩,g7 (c6 _),⟨rfl,rfl,rfl,.inl ⟨rfl,D4 _⟩⟩,trivial⟩,⟨rfl,⟨rfl,rfl,rfl⟩,⟨rfl,rfl,rfl,fun h=>h⟩,⟨rfl,rfl,rfl⟩,rfl,rfl,c7 (by omega),trivial⟩⟩
 have hie:i=s.rows.length:=by omega
 subst hie
 have e4:(fun v=>Z8 s (yN Y) v s.rows.length)=L6 s (yN Y):=rfl
 have e5:a3s s (yN Y) s.rows.length=a4Y s (yN Y):=rfl
 rw [e4,e5]
 conv=>whnf
 repeat' (first|refine zx ?_|refine zd ?_ ?_<;>intro h<;>try omega|fail)<;>conv=>whnf
 all_goals try omega
 refine g8 b9 (fun v=>([J,J,J,J,J,S.c (C.ptr 0 0 0),J,J,S.c (C.ptr 2 0 0),J,J,J,J,S.c (C.own 3 0 (a0M s (yN Y) v).length true)]++Jn 66++[S.c (C.own 1 0 k true),a7 .i64 k,a7 .i64 v]++Jn 16,[frB M6,flB (rF k (L6 s (yN Y))),frB (fz (a4Y s (yN Y))),E3 (a0M s (yN Y) v)])) k (fun _=>True) [some 0,some 1,some 2,none] trivial
  ⟨rfl,rfl,⟨⟨rfl,rfl,rfl,.inr ⟨⟨rfl,rfl,rfl,rfl,trivial⟩,trivial⟩⟩,g7 (c6 _),⟨rfl,rfl,rfl,.inl ⟨rfl,D4 _⟩⟩,⟨rfl,rfl⟩,trivial⟩,⟨⟨rfl,rfl,rfl⟩,⟨rfl,rfl,rfl⟩,⟨rfl,rfl,rfl⟩,⟨rfl,rfl,rfl,fun h=>h⟩,rfl,c7 rfl,trivial⟩⟩ ?_
 intro v hv _
 have lv:=b2C s (yN Y) v
 by_cases hlt:v<k
 ·have bm:=hq.n v s.rows.length
  have em:Z8 s (yN Y) v s.rows.length=L6 s (yN Y) v:=rfl
  rw [em] at bm
  have sg:=T8 (L6 s (yN Y) v) (by omega)
  have sz:=a2J (x:=L6 s (yN Y) v)
  have g1:(rF k (L6 s (yN Y)))[0+(v:Int).toNat]? =some (fz (L6 s (yN Y) v)):=by rw [D8,show (v:Int).toNat=v by omega,I1 hlt]
  have lA:(a0M s (yN Y) v).length<=(E3 (a0M s (yN Y) v)).rows.length:=by show _<=(toC _).length;simp [toC]
  by_cases hz:L6 s (yN Y) v=0
  ·have hs:=sz.2 hz
   have e2:a0M s (yN Y) (v+1)=a0M s (yN Y) v:=by rw [ao8,if_pos hz]
   rw [e2]
   conv=>whnf
   repeat' (first|refine zx ?_|refine qp sg ?_|refine o7 g1 ?_|refine zd ?_ ?_<;>intro h<;>try omega|fail)<;>conv=>whnf
   all_goals first
    |omega
    |exact ⟨hlt,trivial,[some 0,some 1,some 2,some 3],rfl,rfl,⟨⟨rfl,rfl,rfl,.inr ⟨⟨rfl,rfl,rfl,rfl,trivial⟩,trivial⟩⟩,g7 (c6 _),⟨rfl,rfl,rfl,.inl ⟨rfl,D4 _⟩⟩,g7 (c6 _),trivial⟩,⟨⟨rfl,rfl,rfl⟩,⟨rfl,rfl,rfl⟩,⟨rfl,rfl,rfl,fun h=>h⟩,⟨rfl,rfl,rfl,fun h=>h⟩,rfl,c7 (by omega),trivial⟩⟩
  ·have hs:sgR (L6 s (yN Y) v)≠0:=fun h=>hz (sz.1 h)
   have e2:a0M s (yN Y) (v+1)=a0M s (yN Y) v++[((v:Int),L6 s (yN Y) v)]:=by rw [ao8,if_neg hz]
   rw [e2]
   conv=>whnf
   repeat' (first|refine zx ?_|refine qp sg ?_|refine qp toC ?_|refine o7 g1 ?_|refine o6 lA (by simp [toC];omega) ?_|refine zd ?_ ?_<;>intro h<;>try omega|fail)<;>conv=>whnf
   all_goals first
    |omega
    |(refine ⟨hlt,trivial,[some 0,some 1,some 2,some 5],rfl,rfl,⟨⟨rfl,rfl,rfl,.inr ⟨⟨rfl,rfl,rfl,rfl,trivial⟩,trivial⟩⟩,g7 (c6 _),⟨rfl,rfl,rfl,.inl ⟨rfl,D4 _⟩⟩,b7 (rows:=(a0M s (yN Y) v++[((v:Int),L6 s (yN Y) v)]).map i8) rfl rfl rfl ?_ rfl,trivial⟩,⟨⟨rfl,rfl,rfl⟩,⟨rfl,rfl,rfl⟩,⟨rfl,rfl,?_,fun h=>h⟩,⟨rfl,rfl,rfl,fun h=>h⟩,rfl,c7 (by omega),trivial⟩⟩
      ·exact L0 (f:=i8) (x:=((v:Int),L6 s (yN Y) v)) rfl
      ·simp [toC])
 ·have hke:v=k:=by omega
  subst hke
  conv=>whnf
  repeat' (first|refine zx ?_|refine zd ?_ ?_<;>intro h<;>try omega|fail)<;>conv=>whnf
  all_goals first
   |omega
   |exact j2 ⟨(show VC _ (fun id=>E6 [] id=true) (C.own 3 0 _ true) _ from p4 (k:=E3 (a0M s (yN Y) v)) rfl rfl (fun h=>h) rfl rfl (by simp)),⟨rfl,rfl,rfl,rfl,trivial⟩,trivial⟩
theorem aq9 {t:Int × Rat} {r:List (Int × Rat)} (h:∀u ∈ r,u.1.toNat≠t.1.toNat) (v:Nat):∀k,k<=r.length->K2 (t::r) (k+1) v=if v=t.1.toNat then t.2 else K2 r k v
 |0,_=>by
  rw [I9 (l:=t::r) (k:=0) (t:=t) rfl]
  simp only
  by_cases h1:v=t.1.toNat
  ·rw [if_pos h1,if_pos h1]
  ·rw [if_neg h1,if_neg h1]
   rfl
 |k+1,hk=>by
  have hx:r[k]? =some r[k]:=lbf (by omega)
  have hne:=h _ (lbm hx)
  rw [I9 (l:=t::r) (k:=k+1) (t:=r[k]) (by simp),I9 hx]
  have ih:=aq9 h v k (by omega)
  simp only
  rw [ih]
  by_cases h1:v=t.1.toNat
  ·rw [if_pos h1,if_pos h1,if_neg (by omega)]
  ·rw [if_neg h1,if_neg h1]
theorem x5 {last n:Int} {t:Int × Rat} {r:List (Int × Rat)} (h0:-1<=last) (h:d6 last n (t::r)=true) (v:Nat):B7 (t::r) v=if v=t.1.toNat then t.2 else B7 r v:=by
 refine aq9 (fun u hu=>?_) v r.length (lbQ _)
 obtain ⟨j,hj,he⟩:=Y0 hu
 have h1:=a1D h 0 (j+1) t u (by omega) rfl (by simp [he,hj])
 have h2:=n9 h t (K9 ..)
 omega
theorem B1 {last n:Int} {t:Int × Rat} {r:List (Int × Rat)} (h:d6 last n (t::r)=true):d6 t.1 n r=true:=by
 unfold d6 at h
 simp only [lbM] at h
 exact h.2
theorem aG1 {last last' n:Int} (hl:last'<=last) {l:List (Int × Rat)} (h:d6 last n l=true):d6 last' n l=true:=by
 cases l with
 |nil=>rfl
 |cons t r=>
  unfold d6 at h ⊢
  simp only [lbM,lbI] at h ⊢
  exact ⟨⟨⟨by omega,h.1.1.2⟩,h.1.2⟩,h.2⟩
theorem X6 {last n:Int} {l:List (Int × Rat)} (h0:-1<=last) (h:d6 last n l=true) {v:Nat} (hv:(v:Int)<=last):B7 l v=0:=by
 refine a0g _ fun i t hi ht e=>?_
 have:=n9 h t (lbm ht)
 omega
def a8Z (a b:List (Int × Rat)):Prop:=∀v,B7 a v<=B7 b v
theorem aN1 {last n:Int} {t:Int × Rat} {r b:List (Int × Rat)} (h0:-1<=last) (ha:d6 last n (t::r)=true) (hb:d6 t.1 n b=true):a8Z (t::r) b↔t.2<=0∧a8Z r b:=by
 have hm:=n9 ha t (K9 ..)
 have z1:=X6 (v:=t.1.toNat) (by omega) hb (by omega)
 have z2:=X6 (v:=t.1.toNat) (by omega) (B1 ha) (by omega)
 constructor
 ·intro h
  refine ⟨?_,fun v=>?_⟩
  ·have:=h t.1.toNat
   rw [x5 h0 ha,if_pos rfl,z1] at this
   exact this
  ·by_cases hv:v=t.1.toNat
   ·subst hv;rw [z1,z2];exact lb1
   ·have:=h v
    rwa [x5 h0 ha,if_neg hv] at this
 ·rintro ⟨h1,h2⟩ v
  rw [x5 h0 ha]
  by_cases hv:v=t.1.toNat
  ·rw [if_pos hv,hv,z1];exact h1
  ·rw [if_neg hv];exact h2 v
theorem ao3 {last n:Int} {u:Int × Rat} {a q:List (Int × Rat)} (h0:-1<=last) (hb:d6 last n (u::q)=true) (ha:d6 u.1 n a=true):a8Z a (u::q)↔0<=u.2∧a8Z a q:=by
 have hm:=n9 hb u (K9 ..)
 have z1:=X6 (v:=u.1.toNat) (by omega) ha (by omega)
 have z2:=X6 (v:=u.1.toNat) (by omega) (B1 hb) (by omega)
 constructor
 ·intro h
  refine ⟨?_,fun v=>?_⟩
  ·have:=h u.1.toNat
   rw [x5 h0 hb,if_pos rfl,z1] at this
   exact this
  ·by_cases hv:v=u.1.toNat
   ·subst hv;rw [z1,z2];exact lb1
   ·have:=h v
    rwa [x5 h0 hb,if_neg hv] at this
 ·rintro ⟨h1,h2⟩ v
  rw [x5 h0 hb]
  by_cases hv:v=u.1.toNat
  ·rw [if_pos hv,hv,z1];exact h1
  ·rw [if_neg hv];exact h2 v
theorem b50 {last n:Int} {t u:Int × Rat} {r q:List (Int × Rat)} (h0:-1<=last) (ha:d6 last n (t::r)=true) (hb:d6 last n (u::q)=true) (he:t.1=u.1):a8Z (t::r) (u::q)↔t.2<=u.2∧a8Z r q:=by
 have hm:=n9 ha t (K9 ..)
 have z1:=X6 (v:=t.1.toNat) (by omega) (B1 ha) (by omega)
 have z2:=X6 (v:=t.1.toNat) (by omega) (B1 hb) (by omega)
 constructor
 ·intro h
  refine ⟨?_,fun v=>?_⟩
  ·have:=h t.1.toNat
   rwa [x5 h0 ha,x5 h0 hb,if_pos rfl,if_pos (by rw [he])] at this
  ·by_cases hv:v=t.1.toNat
   ·subst hv;rw [z1,z2];exact lb1
   ·have:=h v
    rwa [x5 h0 ha,x5 h0 hb,if_neg hv,if_neg (by rw [← he];exact hv)] at this
 ·rintro ⟨h1,h2⟩ v
  rw [x5 h0 ha,x5 h0 hb,←he]
  by_cases hv:v=t.1.toNat
  ·rw [if_pos hv,if_pos hv];exact h1
  ·rw [if_neg hv,if_neg hv];exact h2 v
open Classical in
noncomputable def aj8 (a b:List (Int × Rat)):Bool:=decide (a8Z a b)
theorem a4e {a b:List (Int × Rat)}:aj8 a b=true↔a8Z a b:=by unfold aj8;simp
theorem a6d {a b a' b':List (Int × Rat)} {p:Prop} (h:a8Z a b↔p∧a8Z a' b') (hp:p):aj8 a b=aj8 a' b':=by
 rw [aw8,a4e,a4e,h];exact ⟨fun h=>h.2,fun h=>⟨hp,h⟩⟩
theorem a6p {a b a' b':List (Int × Rat)} {p:Prop} (h:a8Z a b↔p∧a8Z a' b') (hp:¬p):aj8 a b=false:=by
 rw [← lbP,a4e,h];exact fun h=>hp h.1
theorem a75 (u:Int × Rat) (q:List (Int × Rat)):T.sl 5 (a09 SK.any none none) (List.drop (Int.toNat 1) (List.take (((((u::q).map i8).length:Nat):Int)).toNat ((u::q).map i8)))=.sl 5 .any (q.map i8):=by
 rw [lbn (by omega)];rfl
theorem b6y (n:Int) (a b:List (Int × Rat)) (ha:d6 (-1) n a=true) (hb:d6 (-1) n b=true) (hn:n<=1500) (ba:∀t ∈ a,rl t.2<=60000) (bb:∀t ∈ b,rl t.2<=60000):
 a8 Tryz.prog 174 [j1 a,j1 b] [] (d9 (aj8 a b)) []:=by
 have i0:=H4 0 (by decide) (by decide)
 have r0:=rl0
 (refine ac Tryz.func174 ?_;(conv=>whnf);repeat ((first|refine b0x ?_|refine zy ?_);conv=>whnf))
 repeat' (first|refine zx ?_|refine qp i0 ?_|refine zd ?_ ?_<;>intro h<;>try omega|fail)<;>conv=>whnf
 refine s7 b9 (σ:=Int × List (Int × Rat) × List (Int × Rat)) (fun x=>([j1 x.2.1,j1 x.2.2,J,J,J,S.c (C.ptr 0 0 0)]++Jn 71,[frB (fz ((0:Int):Rat))])) (fun x=>-1<=x.1∧d6 x.1 n x.2.1=true∧d6 x.1 n x.2.2=true∧(∀ t ∈ x.2.1,rl t.2<=60000)∧(∀ t ∈ x.2.2,rl t.2<=60000)∧aj8 a b=aj8 x.2.1 x.2.2) (fun x=>x.2.1.length+x.2.2.length) (-1,a,b) [some 0]
  ⟨a5l _,ha,hb,ba,bb,rfl⟩ ⟨rfl,rfl,⟨⟨rfl,rfl,rfl,.inl ⟨rfl,D4 _⟩⟩,trivial⟩,⟨rfl,rfl,⟨rfl,rfl,rfl⟩,trivial⟩⟩ ?_
 rintro ⟨last,a',b'⟩ ⟨h0,h1,h2,h3,h4,h5⟩
 simp only at h0 h1 h2 h3 h4 h5
 rw [h5]
 show a0w _ _ _ _ ([j1 a',j1 b',J,J,J,S.c (C.ptr 0 0 0)]++Jn 71) [frB (fz ((0:Int):Rat))] _
 have ma:(a'.map i8).length=a'.length:=by simp
 have mb:(b'.map i8).length=b'.length:=by simp
 have lena:=z7 h1
 have lenb:=z7 h2
 clear h5
 cases a' with
 |nil=>
  have na:([]:List (Int × Rat)).length=0:=rfl
  cases b' with
  |nil=>
   have e:aj8 [] []=true:=a4e.2 fun v=>lb1
   rw [e]
   conv=>whnf
   repeat' (first|refine zx ?_|refine zd ?_ ?_<;>intro h<;>try omega|fail)<;>conv=>whnf
   all_goals first
    |omega
    |exact c9 rfl
  |cons u q=>
   have hm:=n9 h2 u (K9 ..)
   have nb:(u::q).length=q.length+1:=rfl
   have eq:=ao3 (a:=[]) h0 h2 rfl
   have bu:=h4 u (K9 ..)
   have cm:=Q5 ((0:Int):Rat) u.2 (by have e:rl ((0:Int):Rat)=rl 0:=rfl;omega) bu
   have k2:=a2E (x:=((0:Int):Rat)) (y:=u.2)
   generalize a1G ((0:Int):Rat) u.2=U at cm k2
   by_cases hU:U > 0
   ·rw [a6p eq (a8f.2 (k2.1 hU))]
    clear k2
    conv=>whnf
    repeat' (first|refine zx ?_|refine qp cm ?_|refine qp 0 ?_|refine qp 1 ?_|refine qp (4,5) ?_|refine T2 (by omega) (by omega) (by omega) ?_|refine p9 (k:=0) rfl (show (u::q)[0]? =some u from rfl) ?_|refine bl0 [1] ?_|refine bl0 [4,5] ?_|refine zd ?_ ?_<;>intro h<;>try omega|fail)<;>conv=>whnf
    all_goals first
     |omega
     |exact c9 rfl
   ·rw [a6d eq (lb2.1 fun h=>hU (k2.2 h))]
    clear k2
    conv=>whnf
    repeat' (first|refine zx ?_|refine qp cm ?_|refine qp 0 ?_|refine qp 1 ?_|refine qp (4,5) ?_|refine T2 (by omega) (by omega) (by omega) ?_|refine p9 (k:=0) rfl (show (u::q)[0]? =some u from rfl) ?_|refine bl0 [1] ?_|refine bl0 [4,5] ?_|refine zd ?_ ?_<;>intro h<;>try omega|fail)<;>conv=>whnf
    all_goals first
     |omega
     |exact ⟨[some 0],(u.1,[],q),⟨rfl,rfl,⟨⟨rfl,rfl,rfl,.inl ⟨rfl,D4 _⟩⟩,trivial⟩,⟨rfl,g9 (a75 u q),⟨rfl,rfl,rfl⟩,trivial⟩⟩,⟨by omega,rfl,B1 h2,h3,fun t ht=>h4 t (O6 _ ht),rfl⟩,by simp⟩
 |cons t r=>
  have hm:=n9 h1 t (K9 ..)
  have bt:=h3 t (K9 ..)
  have na:(t::r).length=r.length+1:=rfl
  cases b' with
  |nil=>
   have nb:([]:List (Int × Rat)).length=0:=rfl
   have eq:=aN1 (b:=[]) h0 h1 rfl
   have cm:=Q5 t.2 ((0:Int):Rat) bt (by have e:rl ((0:Int):Rat)=rl 0:=rfl;omega)
   have k2:=a2E (x:=t.2) (y:=((0:Int):Rat))
   generalize a1G t.2 ((0:Int):Rat)=U at cm k2
   by_cases hU:U > 0
   ·rw [a6p eq (a8f.2 (k2.1 hU))]
    clear k2
    conv=>whnf
    repeat' (first|refine zx ?_|refine qp cm ?_|refine qp 0 ?_|refine qp 1 ?_|refine qp (4,5) ?_|refine T2 (by omega) (by omega) (by omega) ?_|refine p9 (k:=0) rfl (show (t::r)[0]? =some t from rfl) ?_|refine bl0 [1] ?_|refine bl0 [4,5] ?_|refine zd ?_ ?_<;>intro h<;>try omega|fail)<;>conv=>whnf
    all_goals first
     |omega
     |exact c9 rfl
   ·rw [a6d eq (lb2.1 fun h=>hU (k2.2 h))]
    clear k2
    conv=>whnf
    repeat' (first|refine zx ?_|refine qp cm ?_|refine qp 0 ?_|refine qp 1 ?_|refine qp (4,5) ?_|refine T2 (by omega) (by omega) (by omega) ?_|refine p9 (k:=0) rfl (show (t::r)[0]? =some t from rfl) ?_|refine bl0 [1] ?_|refine bl0 [4,5] ?_|refine zd ?_ ?_<;>intro h<;>try omega|fail)<;>conv=>whnf
    all_goals first
     |omega
     |exact ⟨[some 0],(t.1,r,[]),⟨rfl,rfl,⟨⟨rfl,rfl,rfl,.inl ⟨rfl,D4 _⟩⟩,trivial⟩,⟨g9 (a75 t r),rfl,⟨rfl,rfl,rfl⟩,trivial⟩⟩,⟨by omega,B1 h1,rfl,fun t ht=>h3 t (O6 _ ht),h4,rfl⟩,by simp⟩
  |cons u q=>
   have nb:(u::q).length=q.length+1:=rfl
   have hmu:=n9 h2 u (K9 ..)
   have bu:=h4 u (K9 ..)
   rcases a9Z t.1 u.1 with hlt|he|hgt
   ·have hrb:d6 t.1 n (u::q)=true:=by
     have:=h2
     unfold d6 at this ⊢
     simp only [lbM,lbI] at this ⊢
     exact ⟨⟨⟨by omega,this.1.1.2⟩,this.1.2⟩,this.2⟩
    have eq:=aN1 h0 h1 hrb
    have cm:=Q5 t.2 ((0:Int):Rat) bt (by have e:rl ((0:Int):Rat)=rl 0:=rfl;omega)
    have k2:=a2E (x:=t.2) (y:=((0:Int):Rat))
    generalize a1G t.2 ((0:Int):Rat)=U at cm k2
    by_cases hU:U > 0
    ·rw [a6p eq (a8f.2 (k2.1 hU))]
     clear k2
     conv=>whnf
     repeat' (first|refine zx ?_|refine qp cm ?_|refine qp 0 ?_|refine qp 0 ?_|refine qp 1 ?_|refine qp (4,5) ?_|refine T2 (by omega) (by omega) (by omega) ?_|refine p9 (k:=0) rfl (show (u::q)[0]? =some u from rfl) ?_|refine p9 (k:=0) rfl (show (t::r)[0]? =some t from rfl) ?_|refine bl0 [1] ?_|refine bl0 [4,5] ?_|refine zd ?_ ?_<;>intro h<;>try omega|fail)<;>conv=>whnf
     all_goals first
      |omega
      |exact c9 rfl
    ·rw [a6d eq (lb2.1 fun h=>hU (k2.2 h))]
     clear k2
     conv=>whnf
     repeat' (first|refine zx ?_|refine qp cm ?_|refine qp 0 ?_|refine qp 0 ?_|refine qp 1 ?_|refine qp (4,5) ?_|refine T2 (by omega) (by omega) (by omega) ?_|refine p9 (k:=0) rfl (show (u::q)[0]? =some u from rfl) ?_|refine p9 (k:=0) rfl (show (t::r)[0]? =some t from rfl) ?_|refine bl0 [1] ?_|refine bl0 [4,5] ?_|refine zd ?_ ?_<;>intro h<;>try omega|fail)<;>conv=>whnf
     all_goals first
      |omega
      |exact ⟨[some 0],(t.1,r,u::q),⟨rfl,rfl,⟨⟨rfl,rfl,rfl,.inl ⟨rfl,D4 _⟩⟩,trivial⟩,⟨g9 (a75 t r),rfl,⟨rfl,rfl,rfl⟩,trivial⟩⟩,⟨by omega,B1 h1,hrb,fun t ht=>h3 t (O6 _ ht),h4,rfl⟩,by simp⟩
   ·have eq:=b50 h0 h1 h2 he
    have cm:=Q5 t.2 u.2 bt bu
    have k2:=a2E (x:=t.2) (y:=u.2)
    generalize a1G t.2 u.2=U at cm k2
    by_cases hU:U > 0
    ·rw [a6p eq (a8f.2 (k2.1 hU))]
     clear k2
     conv=>whnf
     repeat' (first|refine zx ?_|refine qp cm ?_|refine qp 0 ?_|refine qp 0 ?_|refine qp 1 ?_|refine qp (4,5) ?_|refine T2 (by omega) (by omega) (by omega) ?_|refine p9 (k:=0) rfl (show (u::q)[0]? =some u from rfl) ?_|refine p9 (k:=0) rfl (show (t::r)[0]? =some t from rfl) ?_|refine bl0 [1] ?_|refine bl0 [4,5] ?_|refine zd ?_ ?_<;>intro h<;>try omega|fail)<;>conv=>whnf
     all_goals first
      |omega
      |exact c9 rfl
    ·rw [a6d eq (lb2.1 fun h=>hU (k2.2 h))]
     clear k2
     conv=>whnf
     repeat' (first|refine zx ?_|refine qp cm ?_|refine qp 0 ?_|refine qp 0 ?_|refine qp 1 ?_|refine qp (4,5) ?_|refine T2 (by omega) (by omega) (by omega) ?_|refine p9 (k:=0) rfl (show (u::q)[0]? =some u from rfl) ?_|refine p9 (k:=0) rfl (show (t::r)[0]? =some t from rfl) ?_|refine bl0 [1] ?_|refine bl0 [4,5] ?_|refine zd ?_ ?_<;>intro h<;>try omega|fail)<;>conv=>whnf
     all_goals first
      |omega
      |exact ⟨[some 0],(t.1,r,q),⟨rfl,rfl,⟨⟨rfl,rfl,rfl,.inl ⟨rfl,D4 _⟩⟩,trivial⟩,⟨g9 (a75 t r),g9 (a75 u q),⟨rfl,rfl,rfl⟩,trivial⟩⟩,⟨by omega,B1 h1,by rw [he];exact B1 h2,fun t ht=>h3 t (O6 _ ht),fun t ht=>h4 t (O6 _ ht),rfl⟩,by simp;omega⟩
   ·have hra:d6 u.1 n (t::r)=true:=by
     have:=h1
     unfold d6 at this ⊢
     simp only [lbM,lbI] at this ⊢
     exact ⟨⟨⟨by omega,this.1.1.2⟩,this.1.2⟩,this.2⟩
    have eq:=ao3 h0 h2 hra
    have cm:=Q5 ((0:Int):Rat) u.2 (by have e:rl ((0:Int):Rat)=rl 0:=rfl;omega) bu
    have k2:=a2E (x:=((0:Int):Rat)) (y:=u.2)
    generalize a1G ((0:Int):Rat) u.2=U at cm k2
    by_cases hU:U > 0
    ·rw [a6p eq (a8f.2 (k2.1 hU))]
     clear k2
     conv=>whnf
     repeat' (first|refine zx ?_|refine qp cm ?_|refine qp 0 ?_|refine qp 0 ?_|refine qp 1 ?_|refine qp (4,5) ?_|refine T2 (by omega) (by omega) (by omega) ?_|refine p9 (k:=0) rfl (show (u::q)[0]? =some u from rfl) ?_|refine p9 (k:=0) rfl (show (t::r)[0]? =some t from rfl) ?_|refine bl0 [1] ?_|refine bl0 [4,5] ?_|refine zd ?_ ?_<;>intro h<;>try omega|fail)<;>conv=>whnf
     all_goals first
      |omega
      |exact c9 rfl
    ·rw [a6d eq (lb2.1 fun h=>hU (k2.2 h))]
     clear k2
     conv=>whnf
     repeat' (first|refine zx ?_|refine qp cm ?_|refine qp 0 ?_|refine qp 0 ?_|refine qp 1 ?_|refine qp (4,5) ?_|refine T2 (by omega) (by omega) (by omega) ?_|refine p9 (k:=0) rfl (show (u::q)[0]? =some u from rfl) ?_|refine p9 (k:=0) rfl (show (t::r)[0]? =some t from rfl) ?_|refine bl0 [1] ?_|refine bl0 [4,5] ?_|refine zd ?_ ?_<;>intro h<;>try omega|fail)<;>conv=>whnf
     all_goals first
      |omega
      |exact ⟨[some 0],(u.1,t::r,q),⟨rfl,rfl,⟨⟨rfl,rfl,rfl,.inl ⟨rfl,D4 _⟩⟩,trivial⟩,⟨rfl,g9 (a75 u q),⟨rfl,rfl,rfl⟩,trivial⟩⟩,⟨by omega,hra,B1 h2,h3,fun t ht=>h4 t (O6 _ ht),rfl⟩,by simp⟩
theorem b4k {s:f7} {g:List (Int × Rat)} {y:Nat->Rat} (hr:i7 s=true) (hg:d6 (-1) s.n g=true):aj8 (a0M s y s.n.toNat) g=(List.range s.n.toNat).all fun v=>decide (L6 s y v<=B7 g v):=by
 have hn:=O9 hr
 have hm:=a5q s y s.n.toNat
 rw [aw8,a4e,lbv]
 constructor
 ·intro h v hv
  rw [lbB] at hv
  have:=h v
  rw [aK6 hv] at this
  exact lbH this
 ·intro h v
  by_cases hv:v<s.n.toNat
  ·rw [aK6 hv];exact lbL (h v (lbB.2 hv))
  ·rw [show B7 (a0M s y s.n.toNat) v=0 from a0g _ fun i t _ ht=>by
    have:=n9 hm t (lbm ht);omega,show B7 g v=0 from a0g _ fun i t _ ht=>by
    have:=n9 hg t (lbm ht);omega]
   exact lb1
theorem b40 (s:f7) (hb:ai5 s) (hr:i7 s=true) (hn1:s.n<=1000) (g:List (Int × Rat)) (hg:g.length<=1000000) (hgb:∀t ∈ g,rl t.2<=200) (Y:List Rat) (hy:∀v ∈ Y,rl v<=40000) (hyl:Y.length<=1000000) (hq:Y.length=s.rows.length->b77 s Y):
 a8 Tryz.prog 99 [Q8 s,j1 g,B4 (Y.map fz)] [] (aR4 s g Y) []:=by
 have h0n:=O9 hr
 have sn:=b1O s hb hr Y hyl (fun v hv=>by have:=hy v hv;omega)
 have rt:=B8 g s.n hg hgb
 rw [lbH (show 0<=s.n by omega),N9] at rt
 cases hs:a3r s Y with
 |false=>
  have e:aR4 s g Y=.tup [frS M6,d9 false]:=by unfold aR4 a8O;rw [hs];rfl
  rw [e]
  rw [hs] at sn
  (refine ac Tryz.func99 ?_;(conv=>whnf);repeat ((first|refine b0x ?_|refine zy ?_);conv=>whnf))
  repeat' (first|refine zx ?_|refine qp sn ?_|refine qp rt ?_|refine zd ?_ ?_<;>intro h<;>try omega|fail)<;>conv=>whnf
  all_goals first
   |(exfalso;simp_all;done)
   |exact j2 ⟨⟨rfl,rfl,rfl,rfl,trivial⟩,rfl,trivial⟩
 |true=>
 rw [hs] at sn
 cases ht:d6 (-1) s.n g with
 |false=>
  have e:aR4 s g Y=.tup [frS M6,d9 false]:=by unfold aR4 a8O;rw [hs,ht];rfl
  rw [e]
  rw [ht] at rt
  (refine ac Tryz.func99 ?_;(conv=>whnf);repeat ((first|refine b0x ?_|refine zy ?_);conv=>whnf))
  repeat' (first|refine zx ?_|refine qp sn ?_|refine qp rt ?_|refine zd ?_ ?_<;>intro h<;>try omega|fail)<;>conv=>whnf
  all_goals first
   |(exfalso;simp_all;done)
   |exact j2 ⟨⟨rfl,rfl,rfl,rfl,trivial⟩,rfl,trivial⟩
 |true=>
 rw [ht] at rt
 have hl:Y.length=s.rows.length:=by
  unfold a3r at hs
  simp only [lbM,lbI] at hs
  exact hs.1
 have hq:=hq hl
 have mx:=b97 s hb hr Y hq hn1
 have mr:=a5q s (yN Y) s.n.toNat
 have be:=b6y s.n (a0M s (yN Y) s.n.toNat) g (by rw [← h0n];exact mr) ht (by omega) (fun t ht=>by
  obtain ⟨v,h1,h2,rfl⟩:=a6v.1 ht
  have h3:rl (L6 s (yN Y) v)<=50000:=hq.n v s.rows.length
  show rl (L6 s (yN Y) v)<=60000
  omega) (fun t ht=>by have:=hgb t ht;omega)
 rw [b4k hr ht] at be
 have eb:a8O s g Y=(List.range s.n.toNat).all fun v=>decide (L6 s (yN Y) v<=B7 g v):=by unfold a8O;rw [hs,ht];simp
 unfold aR4
 rw [eb]
 generalize (List.range s.n.toNat).all (fun v=>decide (L6 s (yN Y) v<=B7 g v))=B at be
 cases B with
 |true=>
  rw [if_pos rfl]
  (refine ac Tryz.func99 ?_;(conv=>whnf);repeat ((first|refine b0x ?_|refine zy ?_);conv=>whnf))
  repeat' (first|refine zx ?_|refine qp sn ?_|refine qp rt ?_|refine qp mx ?_|refine qp be ?_|refine qp 5 ?_|refine bl0 [5] ?_|refine zd ?_ ?_<;>intro h<;>try omega|fail)<;>conv=>whnf
  all_goals first
   |(exfalso;simp_all;done)
   |exact j2 ⟨⟨rfl,rfl,rfl,rfl,trivial⟩,rfl,trivial⟩
 |false=>
  rw [if_neg (by decide)]
  (refine ac Tryz.func99 ?_;(conv=>whnf);repeat ((first|refine b0x ?_|refine zy ?_);conv=>whnf))
  repeat' (first|refine zx ?_|refine qp sn ?_|refine qp rt ?_|refine qp mx ?_|refine qp be ?_|refine qp 5 ?_|refine bl0 [5] ?_|refine zd ?_ ?_<;>intro h<;>try omega|fail)<;>conv=>whnf
  all_goals first
   |(exfalso;simp_all;done)
   |exact j2 ⟨⟨rfl,rfl,rfl,rfl,trivial⟩,rfl,trivial⟩
def aT9 (s:f7) (g:List (Int × Rat)):f7:=⟨s.n,s.rows++[⟨g,2,((0:Int):Rat)⟩]⟩
theorem aJ6 {s:f7} {g:List (Int × Rat)} (hr:i7 s=true) (hl:s.rows.length<6000) (hg:d6 (-1) s.n g=true):i7 (aT9 s g)=true:=by
 unfold i7 at hr ⊢
 simp only [lbM,lbI] at hr ⊢
 refine ⟨⟨hr.1.1,by simp [aT9];omega⟩,?_⟩
 show (s.rows++[_]).all (p5 s.n)=true
 rw [a3a,hr.2]
 simp [p5,hg]
theorem P5 {s:f7} {g:List (Int × Rat)} (z:List Rat):∀l:List (Int × Rat),j0 (a0r l) z=-(j0 l z):=by
 intro l
 have key:∀k,k<=l.length->j0 ((a0r l).take k) z=-(j0 (l.take k) z):=by
  intro k
  induction k with
  |zero=>intro _;rw [a7g,a7g];show (0:Rat)=-0;grind
  |succ k ih=>
   intro hk
   have ih:=ih (by omega)
   have ht:l[k]? =some l[k]:=lbf (by omega)
   rw [show (a0r l).take (k+1)=_ from a8H l _ ht,L8,b17 (show k<l.length by omega),L8,show (a0E l ((-1:Int):Rat)).take k=(a0r l).take k from rfl,ih]
   have e1:((-1:Int):Rat)=-1:=rfl
   rw [e1];simp only;grind
 have:=key l.length (lbQ _)
 rwa [lbn (by rw [b5S];exact lbQ _),lbn (lbQ _)] at this
theorem b2I {s:f7} {Y:List Rat} (h:a8v s (yN Y)) (hl:Y.length=s.rows.length):a3r s Y=true:=by
 unfold a3r
 rw [lbH hl,N9,lbv]
 intro i hi
 rw [lbB] at hi
 have hx:s.rows[i]? =some s.rows[i]:=lbf hi
 obtain ⟨h1,h2⟩:=h i _ hx
 unfold sgB
 rw [U7 hx]
 simp only [a7D,a23,lbO,lbK]
 refine ⟨?_,?_⟩
 ·by_cases h:s.rows[i].kind=0
  ·exact .inr (lb2.2 (h1 h))
  ·exact .inl h
 ·by_cases h:s.rows[i].kind=1
  ·exact .inr (lb2.2 (h2 h))
  ·exact .inl h
theorem b0Q {s:f7} {g:List (Int × Rat)} {Y:List Rat} {y:Nat->Rat} {v:Rat} (hr:i7 s=true) (hg:d6 (-1) ((s.n.toNat:Nat):Int) g=true) (h:b2u s (B7 g) y v) (hl:Y.length=s.rows.length) (hY:∀i,i<s.rows.length->yN Y i=y i):a8O s g Y=true∧a4Y s (yN Y)=v:=by
 have hn:=O9 hr
 have e1:∀l,L6 s (yN Y) l=L6 s y l:=fun l=>d8 fun i hi=>by rw [hY i hi]
 have e2:a4Y s (yN Y)=a4Y s y:=d8 fun i hi=>by rw [hY i hi]
 refine ⟨?_,by rw [e2,h.val]⟩
 unfold a8O
 rw [b2I (fun i w hw=>by rw [hY i (lbe.1 hw).1];exact h.sign i w hw) hl,←hn,hg,N9,N9,lbv]
 intro l hl
 rw [lbB] at hl
 have hl:l<s.n.toNat:=by omega
 rw [e1]
 exact lbH (h.mix l hl)
theorem b3S {n:Nat} {y:Nat->Rat} {i:Nat} (h:i<n):yN (zOf n y) i=y i:=a6h h
theorem b4g:rl ((-1:Int):Rat)<=1:=by rw [a7e];exact S5 (x:=-1) (by decide) (by decide)
def f22:List b2q:=[⟨2,0,5⟩]
instance decRow:DecidableEq j6:=fun a b=>decidable_of_iff (a.terms=b.terms∧a.kind=b.kind∧a.value=b.value) ⟨fun ⟨h1,h2,h3⟩=>by cases a;cases b;simp_all,fun h=>by subst h;exact ⟨rfl,rfl,rfl⟩⟩
instance decSys:DecidableEq f7:=fun a b=>decidable_of_iff (a.n=b.n∧a.rows=b.rows) ⟨fun ⟨h1,h2⟩=>by cases a;cases b;simp_all,fun h=>by subst h;exact ⟨rfl,rfl⟩⟩
end Go.Proofs.YtaejgdbahjjncaaGreat
