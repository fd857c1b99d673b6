/- Part 4. -/
import Derived.Test.YtdbogogfeffjlaaGreatQf3
namespace Go.Proofs.YtdbogogfeffjlaaGreat
set_option linter.unusedVariables false
set_option linter.unusedSimpArgs false
set_option maxRecDepth 100000
open Go.RowKit
open St1 St2 St3 St4 St5 St6 St7 St8 StA StB
theorem a3p (i n:Int):a9 Tryz.prog 198 [a7 .i64 i,a7 .i64 n] [] (f9 (idx i n)) []:=by
 (refine ac Tryz.func198 ?_;(conv=>whnf);repeat (refine zy ?_;conv=>whnf))
 repeat' (first|refine zz ?_|refine zd ?_ ?_<;>intro h<;>try omega|refine zy ?_|fail)<;>conv=>whnf
 all_goals (refine b7 ?_;simp only [idx];simp;omega)
theorem a5e (n lo hi:Int):a9 Tryz.prog 134 [a7 .i64 n,a7 .i64 lo,a7 .i64 hi] [] (f9 (btw n lo hi)) []:=by
 (refine ac Tryz.func134 ?_;(conv=>whnf);repeat (refine zy ?_;conv=>whnf))
 repeat' (first|refine zz ?_|refine zd ?_ ?_<;>intro h<;>try omega|refine zy ?_|fail)<;>conv=>whnf
 all_goals (refine b7 ?_;simp only [btw];simp;omega)
def b18 (p:Int × Int):List T:=[ti p.1,ti p.2]
def ar2 (e:Ev):List (Int × Int):=[(e.mats,6),(e.hhs,100),(e.scs,30),(e.places.length,100),(e.moves.length,200),(e.certs.length,100),(e.recalls.length,30),(e.purities.length,200)]
theorem al3 (e:Ev):a1F e=(ar2 e).any fun p=>decide (p.2<p.1):=by
 rw [Bool.eq_iff_iff]
 simp [a1F,ar2]
 omega
set_option maxRecDepth 100000 in
theorem b7z (e:Ev) (hs:e.Sized):a9 Tryz.prog 124 [evS e] [] (f9 (a1F e)) []:=by
 (refine ac Tryz.func124 ?_;(conv=>whnf);repeat (refine zy ?_;conv=>whnf))
 have hl:(ar2 e).length=8:=rfl
 refine f5 d7 (fun k=>([J,J,J,J,J,J,J,J,J,J,J,J,J,J,J,J,J,J,J,J,J,J,J,J,J,J,J,J,J,J,J,J,J,J,S.c (C.t (T.sl 2 .full ((ar2 e).map b18))),a7 .i64 8,a7 .i64 k,J,J,J,J,J,J,J,J,J],[])) 8 (fun k=>((ar2 e).take k).any (fun p=>decide (p.2<p.1))=false) [] rfl
  ⟨rfl,rfl,trivial,⟨i7 (by simp [ar2,b18]),rfl,rfl,trivial⟩⟩ ?_
 intro k hk hI
 conv=>whnf
 repeat' (first|refine zz ?_|refine zd ?_ ?_<;>intro h<;>try omega|refine zy ?_|fail)<;>conv=>whnf
 ·have hlt:k<8:=by omega
  refine d8 (lg0 (hl ▸ hlt)) ?_
  conv=>whnf
  repeat' (first|refine zz ?_|refine zd ?_ ?_<;>intro h<;>try omega|refine zy ?_|fail)<;>conv=>whnf
  ·refine b7 ?_
   rw [al3,a2W (lg0 (hl ▸ hlt))]
   simpa using ‹_ > _›
  ·refine ⟨hlt,?_,[],rfl,rfl,trivial,⟨rfl,rfl,rfl,trivial⟩⟩
   rw [a0D (lg0 (hl ▸ hlt)),hI]
   have h:=‹¬ _ > _›
   simp;omega
 ·refine b7 ?_
  rw [al3,←hI,lg4 (by omega)]
theorem b3V (e:Ev) (hs:e.Sized):a9 Tryz.prog 125 [evS e] [] (f9 (e.places.all (W3 e))) []:=by
 have l1:=hs.s1
 have l2:(e.places.map J1.row).length=e.places.length:=by simp
 (refine ac Tryz.func125 ?_;(conv=>whnf);repeat (refine zy ?_;conv=>whnf))
 refine f5 d7 (fun k=>([J,S.c (C.ptr 0 0 0),J,J,J,J,S.c (C.t (a17 e.places)),a7 .i64 e.places.length,a7 .i64 k,J,J,J,J,J,J,J,J,J,J,J,J,J,J,J,J,J,J,J,J,J,J,J,J,J,J,J,J,J,J,J,J,J,J,J,J],[evB e])) e.places.length (fun k=>(e.places.take k).all (W3 e)=true) [some 0] rfl
  ⟨rfl,rfl,⟨⟨rfl,rfl,rfl,.inl ⟨rfl,p5 e⟩⟩,trivial⟩,⟨⟨rfl,rfl,rfl⟩,i7 rfl,b9 (by simp),b9 rfl,trivial⟩⟩ ?_
 intro k hk hI
 conv=>whnf
 repeat' (first|refine zz ?_|refine zd ?_ ?_<;>intro h<;>try omega|refine zy ?_|fail)<;>conv=>whnf
 ·have hlt:k<e.places.length:=by omega
  obtain ⟨x,hx⟩:∃x,e.places[k]? =some x:=⟨_,lg0 hlt⟩
  refine d8 hx ?_
  conv=>whnf
  repeat' (first|refine zz ?_|refine qp (a3p _ _) ?_|refine zd ?_ ?_<;>intro h<;>try omega|refine zy ?_|fail)<;>conv=>whnf
  all_goals first
   |(refine ⟨hlt,?_,[some 0],rfl,rfl,⟨⟨rfl,rfl,rfl,.inl ⟨rfl,p5 e⟩⟩,trivial⟩,⟨⟨rfl,rfl,rfl⟩,rfl,rfl,rfl,trivial⟩⟩;rw [t6 hx,hI];simp_all [W3];done)
   |(refine b7 ?_;rw [x9 hx];simp_all [W3];done)
 ·refine b7 ?_
  rw [← hI,lg4 (by omega)]
theorem a5k {e:Ev} {i:Int} (h:idx i e.places.length=true):0<=i∧∃x,e.places[i.toNat]? =some x∧o4 e i=x.kind:=by
 have h':=aA3.1 h
 have hlt:i.toNat<e.places.length:=by omega
 refine ⟨h'.1,_,lg0 hlt,?_⟩
 unfold o4
 rw [lg0 hlt];rfl
theorem b8v (e:Ev) (m:x4) (hs:e.Sized):a9 Tryz.prog 126 [evS e,b9D m] [] (f9 (G2 e m)) []:=by
 have l1:=hs.s1
 have l2:(e.places.map J1.row).length=e.places.length:=by simp
 by_cases h1:idx m.src e.places.length=true
 ·obtain ⟨hs0,x,hx,kx⟩:=a5k h1
  by_cases h2:idx m.dst e.places.length=true
  ·obtain ⟨hd0,y,hy,ky⟩:=a5k h2
   (refine ac Tryz.func126 ?_;(conv=>whnf);repeat (refine zy ?_;conv=>whnf))
   rw [← l2] at h1 h2
   repeat' (first|refine zz ?_|refine qp (a3p _ _) ?_|refine qp (a5e _ _ _) ?_|refine o7 hs0 hx ?_|refine o7 hd0 hy ?_|refine zd ?_ ?_<;>intro h<;>try omega|refine zy ?_|fail)<;>conv=>whnf
   all_goals (refine b7 ?_;simp_all [G2];done)
  ·(refine ac Tryz.func126 ?_;(conv=>whnf);repeat (refine zy ?_;conv=>whnf))
   rw [← l2] at h1 h2
   repeat' (first|refine zz ?_|refine qp (a3p _ _) ?_|refine zd ?_ ?_<;>intro h<;>try omega|refine zy ?_|fail)<;>conv=>whnf
   all_goals first|(exfalso;simp_all;done)|(refine b7 ?_;simp_all [G2];done)
 ·(refine ac Tryz.func126 ?_;(conv=>whnf);repeat (refine zy ?_;conv=>whnf))
  rw [← l2] at h1
  repeat' (first|refine zz ?_|refine qp (a3p _ _) ?_|refine zd ?_ ?_<;>intro h<;>try omega|refine zy ?_|fail)<;>conv=>whnf
  all_goals first|(exfalso;simp_all;done)|(refine b7 ?_;simp_all [G2];done)
theorem b8t (e:Ev) (hs:e.Sized):a9 Tryz.prog 127 [evS e] [] (f9 (X4 e)) []:=by
 have l1:=hs.s3
 have l2:(e.certs.map K0.row).length=e.certs.length:=by simp
 have l3:=hs.s4
 have l4:(e.recalls.map y0.row).length=e.recalls.length:=by simp
 have l5:=hs.s5
 have l6:(e.purities.map a0Z.row).length=e.purities.length:=by simp
 have l7:=hs.s2
 have l8:(e.moves.map x4.row).length=e.moves.length:=by simp
 (refine ac Tryz.func127 ?_;(conv=>whnf);repeat (refine zy ?_;conv=>whnf))
 refine f5 d7 (fun k=>([J,S.c (C.ptr 0 0 0),J,J,J,J,J,J,J,J,J,S.c (C.t (Z6 e.certs)),a7 .i64 e.certs.length,a7 .i64 k,J,J,J,J,J,J,J,J,J,J,J,J,J,J,J,J,J,J,J,J,J,J,J,J,J,J,J,J,J,J,J,J,J,J,J,J,J,J,J,J,J,J,J,J,J,J,J,J,J,J,J,J,J,J,J,J,J,J,J,J,J,J,J,J,J,J,J,J,J,J,J,J,J,J,J,J,J,J,J,J,J,J,J,J,J,J,J,J,J,J,J,J,J,J,J,J,J,J,J,J,J,J,J,J,J,J,J],[evB e])) e.certs.length (fun k=>(e.certs.take k).all (a3w e)=true) [some 0] rfl
  ⟨rfl,rfl,⟨⟨rfl,rfl,rfl,.inl ⟨rfl,p5 e⟩⟩,trivial⟩,⟨⟨rfl,rfl,rfl⟩,i7 rfl,b9 (by simp),b9 rfl,trivial⟩⟩ ?_
 intro k hk hI
 conv=>whnf
 repeat' (first|refine zz ?_|refine zd ?_ ?_<;>intro h<;>try omega|refine zy ?_|fail)<;>conv=>whnf
 ·have hlt:k<e.certs.length:=by omega
  obtain ⟨x,hx⟩:∃x,e.certs[k]? =some x:=⟨_,lg0 hlt⟩
  refine d8 hx ?_
  conv=>whnf
  repeat' (first|refine zz ?_|refine qp (a3p _ _) ?_|refine qp (a5e _ _ _) ?_|refine zd ?_ ?_<;>intro h<;>try omega|refine zy ?_|fail)<;>conv=>whnf
  all_goals first
   |(refine ⟨hlt,?_,[some 0],rfl,rfl,⟨⟨rfl,rfl,rfl,.inl ⟨rfl,p5 e⟩⟩,trivial⟩,⟨⟨rfl,rfl,rfl⟩,rfl,rfl,rfl,trivial⟩⟩;rw [t6 hx,hI];simp_all [a3w];done)
   |(refine b7 ?_;rw [X4,x9 hx];rfl;simp_all [a3w];(try omega);done)
 ·have hc:e.certs.all (a3w e)=true:=by rw [← hI,lg4 (by omega)]
  clear hI h hk
  refine f5 d7 (fun k=>([J,S.c (C.ptr 0 0 0),J,J,J,J,J,J,J,J,J,J,J,J,J,J,J,J,J,J,J,J,J,J,J,J,J,J,J,J,J,J,J,J,J,J,J,J,J,J,J,J,J,J,J,J,J,J,J,J,J,J,J,J,J,J,J,J,J,J,J,J,S.c (C.t (J6 e.recalls)),a7 .i64 e.recalls.length,a7 .i64 k,J,J,J,J,J,J,J,J,J,J,J,J,J,J,J,J,J,J,J,J,J,J,J,J,J,J,J,J,J,J,J,J,J,J,J,J,J,J,J,J,J,J,J,J,J,J,J,J,J,J,J,J,J,J,J,J],[evB e])) e.recalls.length (fun k=>(e.recalls.take k).all (Z2 e)=true) [some 0] rfl
   ⟨rfl,rfl,⟨⟨rfl,rfl,rfl,.inl ⟨rfl,p5 e⟩⟩,trivial⟩,⟨⟨rfl,rfl,rfl⟩,i7 rfl,b9 (by simp),b9 rfl,trivial⟩⟩ ?_
  intro k hk hI
  conv=>whnf
  repeat' (first|refine zz ?_|refine zd ?_ ?_<;>intro h<;>try omega|refine zy ?_|fail)<;>conv=>whnf
  ·have hlt:k<e.recalls.length:=by omega
   obtain ⟨x,hx⟩:∃x,e.recalls[k]? =some x:=⟨_,lg0 hlt⟩
   refine d8 hx ?_
   conv=>whnf
   repeat' (first|refine zz ?_|refine qp (a3p _ _) ?_|refine qp (a5e _ _ _) ?_|refine zd ?_ ?_<;>intro h<;>try omega|refine zy ?_|fail)<;>conv=>whnf
   all_goals first
    |(refine ⟨hlt,?_,[some 0],rfl,rfl,⟨⟨rfl,rfl,rfl,.inl ⟨rfl,p5 e⟩⟩,trivial⟩,⟨⟨rfl,rfl,rfl⟩,rfl,rfl,rfl,trivial⟩⟩;rw [t6 hx,hI];simp_all [Z2];done)
    |(refine b7 ?_;rw [X4,hc,x9 hx];rfl;simp_all [Z2];done)
  ·have hr:e.recalls.all (Z2 e)=true:=by rw [← hI,lg4 (by omega)]
   clear hI h hk
   refine f5 d7 (fun k=>([J,S.c (C.ptr 0 0 0),J,J,J,J,J,J,J,J,J,J,J,J,J,J,J,J,J,J,J,J,J,J,J,J,J,J,J,J,J,J,J,J,J,J,J,J,J,J,J,J,J,J,J,J,J,J,J,J,J,J,J,J,J,J,J,J,J,J,J,J,J,J,J,J,J,J,J,J,J,J,J,J,J,J,J,J,J,J,J,J,S.c (C.t (a0p e.purities)),a7 .i64 e.purities.length,a7 .i64 k,J,J,J,J,J,J,J,J,J,J,J,J,J,J,J,J,J,J,J,J,J,J,J,J,J,J,J,J,J,J,J,J,J,J,J,J],[evB e])) e.purities.length (fun k=>(e.purities.take k).all (a07 e)=true) [some 0] rfl
    ⟨rfl,rfl,⟨⟨rfl,rfl,rfl,.inl ⟨rfl,p5 e⟩⟩,trivial⟩,⟨⟨rfl,rfl,rfl⟩,i7 rfl,b9 (by simp),b9 rfl,trivial⟩⟩ ?_
   intro k hk hI
   conv=>whnf
   repeat' (first|refine zz ?_|refine zd ?_ ?_<;>intro h<;>try omega|refine zy ?_|fail)<;>conv=>whnf
   ·have hlt:k<e.purities.length:=by omega
    obtain ⟨x,hx⟩:∃x,e.purities[k]? =some x:=⟨_,lg0 hlt⟩
    refine d8 hx ?_
    conv=>whnf
    repeat' (first|refine zz ?_|refine qp (a3p _ _) ?_|refine qp (a5e _ _ _) ?_|refine zd ?_ ?_<;>intro h<;>try omega|refine zy ?_|fail)<;>conv=>whnf
    all_goals first
     |(refine ⟨hlt,?_,[some 0],rfl,rfl,⟨⟨rfl,rfl,rfl,.inl ⟨rfl,p5 e⟩⟩,trivial⟩,⟨⟨rfl,rfl,rfl⟩,rfl,rfl,rfl,trivial⟩⟩;rw [t6 hx,hI];simp_all [a07];done)
     |(refine b7 ?_;rw [X4,hc,hr,x9 hx];rfl;simp_all [a07];(try omega);done)
   ·have hp:e.purities.all (a07 e)=true:=by rw [← hI,lg4 (by omega)]
    refine b7 ?_
    rw [X4,hc,hr,hp];rfl
def a2C (e:Ev):Nat->Int
 |0=>0
 |k+1=>((e.moves[k]?).map (·.day)).getD 0
theorem a1A {e:Ev} {k:Nat} {m:x4} (h:e.moves[k]? =some m):a2C e (k+1)=m.day:=by simp [a2C,h]
theorem a0R {α:Type} {l:List α} {k:Nat} {x:α} (h:l[k]? =some x):l.drop k=x::l.drop (k+1):=by
 obtain ⟨h1,h2⟩:=lg1 h
 rw [List.drop_eq_getElem_cons h1,h2]
theorem b6f (e:Ev) (hs:e.Sized):a9 Tryz.prog 58 [evS e] [] (a7 .i64 (C6 e)) []:=by
 have l7:=hs.s2
 have l8:(e.moves.map x4.row).length=e.moves.length:=by simp
 (refine ac Tryz.func58 ?_;(conv=>whnf);repeat (refine zy ?_;conv=>whnf))
 repeat' (first|refine zz ?_|refine qp (b7z _ hs) ?_|refine qp (b3V _ hs) ?_|refine zd ?_ ?_<;>intro h<;>try omega|refine zy ?_|fail)<;>conv=>whnf
 case refine_2.refine_2.refine_2.refine_2.refine_1 hf h1 h2 h3=>
  have h4:=h
  clear h
  have hpre:¬(e.mats<1∨e.hhs<0∨e.scs<0∨e.places.all (W3 e)=false):=by
   rintro (h|h|h|h)
   ·omega
   ·omega
   ·omega
   ·rw [h4] at h;cases h
  have hck:C6 e=if y3 e 0 e.moves≠0 then y3 e 0 e.moves else if X4 e then 0 else 1:=by
   unfold C6;rw [if_neg (by simp [hf]),if_neg hpre]
  refine f5 d7 (fun k=>([J,S.c (C.ptr 0 0 0),J,a7 .i64 (a2C e k),J,J,J,J,J,J,J,J,J,J,J,J,J,J,J,J,J,J,J,J,J,J,J,J,J,S.c (C.t (a1L e.moves)),a7 .i64 e.moves.length,a7 .i64 k,J,J,J,J,J,J,J,J,J,J,J,J,J,J,J,J,J,J,J,J,J,J],[evB e])) e.moves.length (fun k=>y3 e 0 e.moves=y3 e (a2C e k) (e.moves.drop k)) [some 0] rfl
   ⟨rfl,rfl,⟨⟨rfl,rfl,rfl,.inl ⟨rfl,p5 e⟩⟩,trivial⟩,⟨⟨rfl,rfl,rfl⟩,b9 rfl,i7 rfl,b9 (by simp),b9 rfl,trivial⟩⟩ ?_
  intro k hk hI
  conv=>whnf
  repeat' (first|refine zz ?_|refine zd ?_ ?_<;>intro h<;>try omega|refine zy ?_|fail)<;>conv=>whnf
  ·have hlt:k<e.moves.length:=by omega
   obtain ⟨x,hx⟩:∃x,e.moves[k]? =some x:=⟨_,lg0 hlt⟩
   rw [a0R hx,y3] at hI
   refine d8 hx ?_
   conv=>whnf
   repeat' (first|refine zz ?_|refine qp (b8v _ x hs) ?_|refine zd ?_ ?_<;>intro h<;>try omega|refine zy ?_|fail)<;>conv=>whnf
   all_goals first
    |(refine ⟨hlt,?_,[some 0],rfl,rfl,⟨⟨rfl,rfl,rfl,.inl ⟨rfl,p5 e⟩⟩,trivial⟩,⟨⟨rfl,rfl,rfl⟩,?_,rfl,rfl,rfl,trivial⟩⟩
      ·rw [a1A hx,hI,if_neg (by omega),if_pos (by assumption)]
      ·rw [a1A hx];exact rfl)
    |(have e1:y3 e 0 e.moves=17:=by rw [hI,if_pos (by omega)]
      refine j8 ?_;rw [hck,e1];rfl)
    |(have e1:y3 e 0 e.moves=1:=by rw [hI,if_neg (by omega),if_neg (by simp_all)]
      refine j8 ?_;rw [hck,e1];rfl)
  ·rw [List.drop_eq_nil_of_le (by omega),y3] at hI
   repeat' (first|refine zz ?_|refine qp (b8t _ hs) ?_|refine zd ?_ ?_<;>intro h<;>try omega|refine zy ?_|fail)<;>conv=>whnf
   all_goals (refine j8 ?_;rw [hck,hI];simp_all)
 all_goals (refine j8 ?_;unfold C6;simp_all;try omega)
abbrev bgC (b:Bg):List C:=[.t (ti b.sg),.t (L5 b.dl)]
abbrev bgS (b:Bg):S:=.agg (bgC b)
abbrev bgB (b:Bg):Blk:={ mode:=.live,elem:=81,size:=2,rows:=[bgC b],box:=true }
theorem a4a (b:Bg):K2 [bgC b]:=by
 intro r hr c hc
 simp at hr
 subst hr
 simp [bgC] at hc
 rcases hc with rfl|rfl<;>rfl
theorem w5 {l:List Int} {i:Nat} (h:i<l.length):l[i]? =some (dat l i):=by
 unfold dat;rw [lg3,lg0 h];rfl
theorem a6m {l:List Int} (h:0<l.length):l[((l.length:Int) - 1).toNat]? =some (dat l (l.length - 1)):=by
 rw [show ((l.length:Int) - 1).toNat=l.length - 1 by omega];exact w5 (by omega)
theorem a1M {l:List Int} {n:Nat} (h:0<n) (hn:n<=l.length):l[((n:Int) - 1).toNat]? =some (dat l (n - 1)):=by
 rw [show ((n:Int) - 1).toNat=n - 1 by omega];exact w5 (by omega)
theorem a2I (b:Bg) (hl:b.dl.length<=1000000):a9 Tryz.prog 135 [bgS b] [] (f9 (J2 b)) []:=by
 have l2:(b.dl.map f8).length=b.dl.length:=by simp
 (refine ac Tryz.func135 ?_;(conv=>whnf);repeat (refine zy ?_;conv=>whnf))
 repeat' (first|refine zz ?_|refine zd ?_ ?_<;>intro h<;>try omega|refine zy ?_|fail)<;>conv=>whnf
 refine f5 d7 (fun k=>([J,S.c (C.ptr 0 0 0),J,a7 .i64 b.dl.length,J,J,J,J,J,J,e7 b.dl,a7 .i64 b.dl.length,a7 .i64 k,J,J,J,J,J,J,J,J,J,J,J,J,J,J,J,J,J,J,J,J,J,J,J,J,J,J,J,J,J,J,J,J],[bgB b])) b.dl.length (fun k=>(b.dl.take k).all inD=true) [some 0] rfl
  ⟨rfl,rfl,⟨⟨rfl,rfl,rfl,.inl ⟨rfl,a4a b⟩⟩,trivial⟩,⟨⟨rfl,rfl,rfl⟩,b9 (by simp),i7 rfl,b9 (by simp),b9 rfl,trivial⟩⟩ ?_
 intro k hk hI
 conv=>whnf
 repeat' (first|refine zz ?_|refine d8 (w5 (by omega)) ?_|refine o7 (by omega) (a6m (by omega)) ?_|refine zd ?_ ?_<;>intro h<;>try omega|refine zy ?_|fail)<;>conv=>whnf
 all_goals first
  |(have hlt:k<b.dl.length:=by omega
    refine ⟨hlt,?_,[some 0],rfl,rfl,⟨⟨rfl,rfl,rfl,.inl ⟨rfl,a4a b⟩⟩,trivial⟩,⟨⟨rfl,rfl,rfl⟩,rfl,rfl,rfl,rfl,trivial⟩⟩;rw [t6 (w5 hlt),hI];simp [inD];omega)
  |(have hlt:k<b.dl.length:=by omega
    refine b7 ?_;unfold J2;rw [x9 (w5 hlt) (by simp [inD];omega)];rfl)
  |(have ha:b.dl.all inD=true:=by rw [← hI,lg4 (by omega)]
    refine b7 ?_;unfold J2;rw [ha];simp_all;done)
theorem a3B (l:List Int) (hl:l.length<=1000000):a9 Tryz.prog 265 [e7 l] [] (e7 (I0 l)) []:=by
 have l2:(l.map f8).length=l.length:=by simp
 (refine ac Tryz.func265 ?_;(conv=>whnf);repeat (refine zy ?_;conv=>whnf))
 repeat' (first|refine zz ?_|refine zd ?_ ?_<;>intro h<;>try omega|refine zy ?_|fail)<;>conv=>whnf
 refine o5 d7 (σ:=Nat) (fun n=>([e7 l,J,J,a7 .i64 n,J,J,J,J,J,J,J,J,J,J,J,J,J,J,J,J,J],[])) (fun n=>n<=l.length∧∀j x,n<=j->l[j]? =some x->x=0) (fun n=>n) l.length []
  ⟨Nat.le_refl _,fun j x hj hx=>by rw [List.getElem?_eq_none hj] at hx;cases hx⟩ ⟨rfl,rfl,trivial,⟨i7 rfl,b9 (by simp),trivial⟩⟩ ?_
 rintro n ⟨hn,hz⟩
 have hn:n<=l.length:=hn
 conv=>whnf
 repeat' (first|refine zz ?_|refine o7 (by omega) (a1M (by omega) hn) ?_|refine a41 (by omega) (by omega) (by omega) ?_|refine zd ?_ ?_<;>intro h<;>try omega|refine zy ?_|fail)<;>conv=>whnf
 ·have h0:dat l (n - 1)=0:=by assumption
  have h1:0<n:=by omega
  refine ⟨[],n - 1,⟨rfl,rfl,trivial,⟨rfl,b9 (by omega),trivial⟩⟩,⟨by omega,fun j x hj hxj=>?_⟩,by show n - 1<n;omega⟩
  by_cases hj2:j=n - 1
  ·subst hj2;rw [w5 (by omega)] at hxj;injection hxj with hx;rw [← hx];exact h0
  ·exact hz j x (by omega) hxj
 all_goals
  have e:l.take n=I0 l:=a37 hz (fun x h0 hx=>by
   first
    |omega
    |(rw [w5 (by omega)] at hx;injection hx with hx;rw [← hx];assumption)) hn
  refine b89 ?_ rfl
  rw [← e]
  simp [List.map_take]
theorem b5m (l:List Int) (hl:l.length<=1000000):a9 Tryz.prog 265 [a0Y 0 l] [s8 l] (.c (.own 0 0 (I0 l).length true)) [s8 l]:=by
 (refine ac Tryz.func265 ?_;(conv=>whnf);repeat (refine zy ?_;conv=>whnf))
 repeat' (first|refine zz ?_|refine zd ?_ ?_<;>intro h<;>try omega|refine zy ?_|fail)<;>conv=>whnf
 refine o5 d7 (σ:=Nat) (fun n=>([a0Y 0 l,J,J,a7 .i64 n,J,J,J,J,J,J,J,J,J,J,J,J,J,J,J,J,J],[s8 l])) (fun n=>n<=l.length∧∀j x,n<=j->l[j]? =some x->x=0) (fun n=>n) l.length [some 0]
  ⟨Nat.le_refl _,fun j x hj hx=>by rw [List.getElem?_eq_none hj] at hx;cases hx⟩ ⟨rfl,rfl,⟨a8 rfl rfl rfl rfl rfl,trivial⟩,⟨l9 rfl rfl,b9 rfl,trivial⟩⟩ ?_
 rintro n ⟨hn,hz⟩
 have hn:n<=l.length:=hn
 have hg:0<n->l[0+((n:Int) - 1).toNat]? =some (dat l (n - 1)):=fun h=>by rw [Nat.zero_add];exact a1M h hn
 conv=>whnf
 repeat' (first|refine zz ?_|refine s9 (hg (by omega)) ?_|refine a41 (by omega) (by omega) (by omega) ?_|refine zd ?_ ?_<;>intro h<;>try omega|refine zy ?_|fail)<;>conv=>whnf
 ·have h0:dat l (n - 1)=0:=by assumption
  have h1:0<n:=by omega
  refine ⟨[some 0],n - 1,⟨rfl,rfl,⟨a8 rfl rfl rfl rfl rfl,trivial⟩,⟨l9 rfl rfl,b9 (by omega),trivial⟩⟩,⟨by omega,fun j x hj hxj=>?_⟩,by show n - 1<n;omega⟩
  by_cases hj2:j=n - 1
  ·subst hj2;rw [w5 (by omega)] at hxj;injection hxj with hx;rw [← hx];exact h0
  ·exact hz j x (by omega) hxj
 all_goals
  have e:l.take n=I0 l:=a37 hz (fun x h0 hx=>by
   first
    |omega
    |(rw [w5 (by omega)] at hx;injection hx with hx;rw [← hx];assumption)) hn
  have e2:(I0 l).length=n:=by rw [← e];simp;omega
  exact ⟨⟨[some 0],rfl,rfl,⟨a8 rfl rfl rfl rfl rfl,trivial⟩,⟨rfl,rfl,by rw [e2];omega,fun h=>h⟩⟩⟩
theorem aA4 {n:Nat} {K:Prop} (h:0<n) (k:K):0<n∧K:=⟨h,k⟩
theorem a9i (l:List Int) (hl:l.length<=1000000):a9 Tryz.prog 207 [e7 l] [] (e7 l) []:=by
 have l2:(l.map f8).length=l.length:=by simp
 cases l with
 |nil=>
  refine an0 0 rfl ?_ ?_
  ·(refine ac Tryz.func207 ?_;(conv=>whnf);repeat (refine zy ?_;conv=>whnf))
   repeat' (first|refine zz ?_|refine zd ?_ ?_<;>intro h<;>try omega|refine zy ?_|fail)<;>conv=>whnf
   exact k8 (show a8W [] _ _ _ from rfl)
  ·(refine ac Tryz.func207 ?_;(conv=>whnf);repeat (refine zy ?_;conv=>whnf))
   repeat' (first|refine zz ?_|refine qp toC ?_|refine aA4 (by simp) ?_|refine sl3_ok (by omega) (by omega) rfl (by omega) ?_|refine a2Y rfl (by simp [toC]) ?_|refine zd ?_ ?_<;>intro h<;>try omega|refine zy ?_|fail)<;>conv=>whnf
   exact T7 rfl (by intro h;cases h) rfl rfl (by simp [toC])
 |cons a r=>
  (refine ac Tryz.func207 ?_;(conv=>whnf);repeat (refine zy ?_;conv=>whnf))
  repeat' (first|refine zz ?_|refine qp toC ?_|refine aA4 (by simp) ?_|refine sl3_ok (by omega) (by omega) rfl (by omega) ?_|refine a2Y rfl (by simp [toC] at *;omega) ?_|refine zd ?_ ?_<;>intro h<;>try omega|refine zy ?_|fail)<;>conv=>whnf
  exact T7 rfl (by intro h;cases h) rfl rfl (by simp [toC])
theorem b4r (l:List Int) (hl:l.length<=1000000):a9 Tryz.prog 207 [e7 l] [] (a0Y 0 l) [s8 l]:=by
 have l2:(l.map f8).length=l.length:=by simp
 cases l with
 |nil=>
  refine an0 0 rfl ?_ ?_
  ·(refine ac Tryz.func207 ?_;(conv=>whnf);repeat (refine zy ?_;conv=>whnf))
   repeat' (first|refine zz ?_|refine zd ?_ ?_<;>intro h<;>try omega|refine zy ?_|fail)<;>conv=>whnf
   exact ⟨⟨[none],rfl,rfl,⟨⟨rfl,rfl⟩,trivial⟩,⟨rfl,rfl,rfl⟩⟩⟩
  ·(refine ac Tryz.func207 ?_;(conv=>whnf);repeat (refine zy ?_;conv=>whnf))
   repeat' (first|refine zz ?_|refine qp toC ?_|refine aA4 (by simp) ?_|refine sl3_ok (by omega) (by omega) rfl (by omega) ?_|refine a2Y rfl (by simp [toC]) ?_|refine zd ?_ ?_<;>intro h<;>try omega|refine zy ?_|fail)<;>conv=>whnf
   exact ⟨⟨[some 0],rfl,rfl,⟨a8 rfl rfl rfl rfl rfl,trivial⟩,⟨rfl,rfl,by simp [toC],fun h=>h⟩⟩⟩
 |cons a r=>
  (refine ac Tryz.func207 ?_;(conv=>whnf);repeat (refine zy ?_;conv=>whnf))
  repeat' (first|refine zz ?_|refine qp toC ?_|refine aA4 (by simp) ?_|refine sl3_ok (by omega) (by omega) rfl (by omega) ?_|refine a2Y rfl (by simp [toC] at *;omega) ?_|refine zd ?_ ?_<;>intro h<;>try omega|refine zy ?_|fail)<;>conv=>whnf
  exact ⟨⟨[some 0],rfl,rfl,⟨a8 rfl rfl rfl rfl rfl,trivial⟩,⟨rfl,rfl,by simp [toC],fun h=>h⟩⟩⟩
theorem b6X (x:Int):a9 Tryz.prog 268 [a7 .i64 x] [] (f9 false) []:=by
 (refine ac Tryz.func268 ?_;(conv=>whnf);repeat (refine zy ?_;conv=>whnf))
 repeat' (first|refine zz ?_|refine zd ?_ ?_<;>intro h<;>try omega|refine zy ?_|fail)<;>conv=>whnf
 all_goals first
  |omega
  |exact b7 rfl
def O4 (x y:Int):Int:=if x<y then -1 else if x > y then 1 else 0
theorem a3y (x y:Int):a9 Tryz.prog 211 [a7 .i64 x,a7 .i64 y] [] (a7 .i64 (O4 x y)) []:=by
 (refine ac Tryz.func211 ?_;(conv=>whnf);repeat (refine zy ?_;conv=>whnf))
 repeat' (first|refine zz ?_|refine qp (b6X _) ?_|refine zd ?_ ?_<;>intro h<;>try omega|refine zy ?_|fail)<;>conv=>whnf
 all_goals first
  |(exfalso;simp_all;done)
  |(refine j8 ?_;unfold O4;split<;>first|omega|(split<;>omega))
theorem a3q (x y:Int):a9 Tryz.prog 214 [.c (.t (.sl 1 .full ([x,y].map f8)))] [] (a7 .i64 (if x=0 then y else x)) []:=by
 (refine ac Tryz.func214 ?_;(conv=>whnf);repeat (refine zy ?_;conv=>whnf))
 repeat' (first|refine zz ?_|refine zd ?_ ?_<;>intro h<;>try omega|refine zy ?_|fail)<;>conv=>whnf
 refine f5 d7 (fun k=>([J,J,J,a7 .i64 0,J,J,S.c (C.t (T.sl 1 .full ([x,y].map f8))),a7 .i64 2,a7 .i64 k,J,J,J,J,J,J,J,J,J],[])) 2 (fun k=>∀v ∈ [x,y].take k,v=0) [] (by simp)
  ⟨rfl,rfl,trivial,⟨rfl,i7 rfl,b9 rfl,b9 rfl,trivial⟩⟩ ?_
 intro k hk hI
 conv=>whnf
 repeat' (first|refine zz ?_|refine zd ?_ ?_<;>intro h<;>try omega|refine zy ?_|fail)<;>conv=>whnf
 ·have hlt:k<2:=by omega
  obtain ⟨v,hv⟩:∃v,[x,y][k]? =some v:=⟨_,lg0 (by simpa using hlt)⟩
  refine d8 hv ?_
  conv=>whnf
  repeat' (first|refine zz ?_|refine zd ?_ ?_<;>intro h<;>try omega|refine zy ?_|fail)<;>conv=>whnf
  ·refine j8 ?_
   match k,hlt with
   |0,_=>simp at hv;subst hv;rw [if_neg (by assumption)]
   |1,_=>simp at hv;subst hv;rw [if_pos (hI x (by simp))]
  ·refine ⟨hlt,?_,[],rfl,rfl,trivial,⟨rfl,rfl,rfl,rfl,trivial⟩⟩
   intro u hu
   rw [List.take_add_one,hv] at hu
   rcases List.mem_append.1 hu with hu|hu
   ·exact hI u hu
   ·simp at hu;subst hu;omega
 ·have h1:=hI x (by rw [lg4 (by simp;omega)];simp)
  have h2:=hI y (by rw [lg4 (by simp;omega)];simp)
  refine j8 ?_
  rw [if_pos h1,h2]
def sgn (s:Int) (l:List Int):Bg:=if (I0 l).length=0 then ⟨0,[]⟩ else ⟨s,I0 l⟩
theorem aC7 (s:Int) (l:List Int) (hl:l.length<=1000000):a9 Tryz.prog 209 [a7 .i64 s,e7 l] [] (bgS (sgn s l)) []:=by
 (refine ac Tryz.func209 ?_;(conv=>whnf);repeat (refine zy ?_;conv=>whnf))
 repeat' (first|refine zz ?_|refine qp (a3B l hl) ?_|refine zd ?_ ?_<;>intro h<;>try omega|refine zy ?_|fail)<;>conv=>whnf
 ·have h0:(I0 l).length=0:=by simp at *;assumption
  unfold sgn
  rw [if_pos h0]
  exact k8 ⟨rfl,rfl,trivial⟩
 ·have h0:¬(I0 l).length=0:=by simp at *;assumption
  unfold sgn
  rw [if_neg h0]
  exact k8 ⟨rfl,rfl,trivial⟩
theorem I9 (r:Bool) (b:Bg):a9 Tryz.prog 206 [f9 r,bgS b] [] (.tup [bgS (if r then b else ⟨0,[]⟩),a7 .i64 (if r then 0 else 1)]) []:=by
 cases r<;>
 ·(refine ac Tryz.func206 ?_;(conv=>whnf);repeat (refine zy ?_;conv=>whnf))
  repeat' (first|refine zz ?_|refine zd ?_ ?_<;>intro h<;>try omega|refine zy ?_|fail)<;>conv=>whnf
  exact k8 ⟨⟨rfl,rfl,trivial⟩,rfl,trivial⟩
theorem a3b {x y:Int} (h:x<y):O4 x y=-1:=by unfold O4;rw [if_pos h]
theorem a94 {x y:Int} (h:y<x):O4 x y=1:=by unfold O4;rw [if_neg (by omega),if_pos h]
theorem b6z {x y:Int} (h:x=y):O4 x y=0:=by unfold O4;rw [if_neg (by omega),if_neg (by omega)]
theorem aY9 {s:Int} {l:List Int} (h:Okd l) (hs:s=1∨s=-1∨val l=0):sgn s l=bz (s*val l):=by
 have hv:=w9 h
 unfold sgn bz
 rw [K8 h]
 by_cases h0:val l=0
 ·rw [h0,Int.mul_zero];rfl
 ·have h1:(dg (val l).toNat).length≠0:=by rw [Ne,List.length_eq_zero_iff,Q5];omega
  rw [if_neg h1]
  rcases hs with rfl|rfl|h2
  ·rw [Int.sign_eq_one_of_pos (by omega)]
   congr 2;omega
  ·rw [Int.sign_eq_neg_one_of_neg (by omega)]
   congr 2;omega
  ·exact absurd h2 h0
theorem a2y (a b:List Int) (ha:Can a) (hb:Can b) (la:a.length<=1000000) (lb:b.length<=1000000):
 a9 Tryz.prog 212 [e7 a,e7 b] [] (a7 .i64 (O4 (val a) (val b))) []:=by
 have l1:(a.map f8).length=a.length:=by simp
 have l2:(b.map f8).length=b.length:=by simp
 have key:∀{x y:List Int},Can x->Can y->x.length<y.length->val x<val y:=fun {x y} hx hy h=>by
  rw [aX5 hx,aX5 hy] at h
  have:=ay1 h
  have:=w9 hx.1
  omega
 by_cases hl:a.length=b.length
 ·(refine ac Tryz.func212 ?_;(conv=>whnf);repeat (refine zy ?_;conv=>whnf))
  repeat' (first|refine zz ?_|refine zd ?_ ?_<;>intro h<;>try omega|refine zy ?_|fail)<;>conv=>whnf
  refine o5 d7 (σ:=Nat) (fun k=>([e7 a,e7 b,J,J,J,a7 .i64 ((k:Int) - 1),J,J,J,J,J,J,J,J,J,J,J,J,J,J,J,J,J,J,J,J,J,J,J,J,J,J,J,J,J,J,J,J,J,J,J],[])) (fun k=>k<=a.length∧a.drop k=b.drop k) (fun k=>k) a.length []
   ⟨Nat.le_refl _,by rw [List.drop_of_length_le (Nat.le_refl _),List.drop_of_length_le (by omega)]⟩ ⟨rfl,rfl,trivial,⟨i7 rfl,i7 rfl,b9 (by simp),trivial⟩⟩ ?_
  rintro k ⟨hk,hd⟩
  have hk:k<=a.length:=hk
  have hd:a.drop k=b.drop k:=hd
  conv=>whnf
  repeat' (first|refine zz ?_|refine qp (a3y _ _) ?_|refine o7 (by omega) (a1M (by omega) hk) ?_|refine o7 (by omega) (a1M (by omega) (hl ▸ hk)) ?_|refine zd ?_ ?_<;>intro h<;>try omega|refine zy ?_|fail)<;>conv=>whnf
  all_goals first
   |(have hp:0<k:=by omega
     have e:k - 1+1=k:=by omega
     have gx:=w5 (l:=a) (i:=k - 1) (by omega)
     have gy:=w5 (l:=b) (i:=k - 1) (by omega)
     refine j8 ?_
     rcases Int.lt_trichotomy (dat a (k - 1)) (dat b (k - 1)) with h|h|h
     ·rw [a3b h,a3b (a8H ha.1 hb.1 hl gx gy (by rw [e];exact hd) h)]
     ·exfalso;simp_all;done
     ·rw [a94 h,a94 (a8H hb.1 ha.1 hl.symm gy gx (by rw [e];exact hd.symm) h)])
   |(have hp:0<k:=by omega
     have hq:dat a (k - 1)=dat b (k - 1):=by omega
     refine ⟨[],k - 1,⟨rfl,rfl,trivial,⟨rfl,rfl,b9 (by omega),trivial⟩⟩,⟨by omega,?_⟩,by show k - 1<k;omega⟩
     rw [List.drop_eq_getElem_cons (by omega:k - 1<a.length),List.drop_eq_getElem_cons (by omega:k - 1<b.length),show k - 1+1=k by omega,hd]
     congr 1
     have gx:=w5 (l:=a) (i:=k - 1) (by omega)
     have gy:=w5 (l:=b) (i:=k - 1) (by omega)
     rw [lg0 (by omega)] at gx gy
     injection gx with gx
     injection gy with gy
     rw [gx,gy,hq])
   |(have:k=0:=by omega
     subst this
     simp only [List.drop_zero] at hd
     refine j8 ?_
     rw [hd,b6z rfl])
 ·(refine ac Tryz.func212 ?_;(conv=>whnf);repeat (refine zy ?_;conv=>whnf))
  repeat' (first|refine zz ?_|refine qp (a3y _ _) ?_|refine zd ?_ ?_<;>intro h<;>try omega|refine zy ?_|fail)<;>conv=>whnf
  all_goals first
   |omega
   |(refine j8 ?_
     rcases Nat.lt_or_gt_of_ne hl with h|h
     ·rw [a3b (by omega),a3b (key ha hb h)]
     ·rw [a94 (by omega),a94 (key hb ha h)])
def b1B (a b:Bg):Int:=if J2 a && J2 b then O4 (bv a) (bv b) else 0
theorem aR6 (x:Int):Can (bz x).dl:=a1S _
theorem aA6 (x:Int):val (bz x).dl=x.natAbs:=n7 _
theorem E9 (x:Int):x.sign=0∧x=0∨x.sign=1∧0<x∨x.sign=-1∧x<0:=by
 rcases Int.lt_trichotomy x 0 with h|h|h
 ·exact .inr (.inr ⟨Int.sign_eq_neg_one_of_neg h,h⟩)
 ·subst h;exact .inl ⟨rfl,rfl⟩
 ·exact .inr (.inl ⟨Int.sign_eq_one_of_pos h,h⟩)
theorem b1A {x y:Int} (h:x.sign≠y.sign):O4 x.sign y.sign=O4 x y:=by
 rcases E9 x with ⟨e,h1⟩|⟨e,h1⟩|⟨e,h1⟩<;>rcases E9 y with ⟨f,h2⟩|⟨f,h2⟩|⟨f,h2⟩<;>rw [e,f] at h ⊢<;>unfold O4<;>(repeat' split)<;>omega
theorem b34 {x y:Int} (h:x.sign=y.sign):x.sign*O4 x.natAbs y.natAbs=O4 x y:=by
 rcases E9 x with ⟨e,h1⟩|⟨e,h1⟩|⟨e,h1⟩<;>rcases E9 y with ⟨f,h2⟩|⟨f,h2⟩|⟨f,h2⟩<;>rw [e,f] at h<;>try omega
 all_goals (rw [e];unfold O4;(repeat' split)<;>omega)
theorem b4u (x y:Int):-1<=O4 x y∧O4 x y<=1:=by unfold O4;split<;>(try split)<;>omega
theorem a9A {b:Bg} (h:J2 b=true):∃z,b=bz z:=⟨_,b4d h⟩
theorem aP0 (a b:Bg) (la:a.dl.length<=1000000) (lb:b.dl.length<=1000000):
 a9 Tryz.prog 139 [bgS a,bgS b] [] (a7 .i64 (b1B a b)) []:=by
 have r1:=a2I a la
 have r2:=a2I b lb
 cases ha:J2 a with
 |false=>
  rw [ha] at r1
  (refine ac Tryz.func139 ?_;(conv=>whnf);repeat (refine zy ?_;conv=>whnf))
  repeat' (first|refine zz ?_|refine qp r1 ?_|refine qp r2 ?_|refine zd ?_ ?_<;>intro h<;>try omega|refine zy ?_|fail)<;>conv=>whnf
  all_goals (first|(exfalso;simp_all;done)|(refine j8 ?_;unfold b1B;rw [ha];rfl))
 |true=>
  rw [ha] at r1
  cases hb:J2 b with
  |false=>
   rw [hb] at r2
   (refine ac Tryz.func139 ?_;(conv=>whnf);repeat (refine zy ?_;conv=>whnf))
   repeat' (first|refine zz ?_|refine qp r1 ?_|refine qp r2 ?_|refine zd ?_ ?_<;>intro h<;>try omega|refine zy ?_|fail)<;>conv=>whnf
   all_goals (first|(exfalso;simp_all;done)|(refine j8 ?_;unfold b1B;rw [ha,hb];rfl))
  |true=>
   rw [hb] at r2
   obtain ⟨x,rfl⟩:=a9A ha
   obtain ⟨y,rfl⟩:=a9A hb
   have c:=a2y (bz x).dl (bz y).dl (aR6 x) (aR6 y) la lb
   rw [aA6,aA6] at c
   have e:b1B (bz x) (bz y)=O4 x y:=by unfold b1B;rw [ha,hb,a3M,a3M];rfl
   rw [e]
   have hr:=b4u x y
   by_cases hs:x.sign=y.sign
   ·have hs':(bz x).sg=(bz y).sg:=hs
    have e2:=b34 hs
    (refine ac Tryz.func139 ?_;(conv=>whnf);repeat (refine zy ?_;conv=>whnf))
    repeat' (first|refine zz ?_|refine qp r1 ?_|refine qp r2 ?_|refine qp c ?_|refine ⟨_,D4 e2 (by omega) (by omega),?_⟩|refine zd ?_ ?_<;>intro h<;>try omega|refine zy ?_|fail)<;>conv=>whnf
    all_goals first
     |omega
     |(exfalso;simp_all;done)
     |exact j8 rfl
   ·have hs':(bz x).sg≠(bz y).sg:=hs
    (refine ac Tryz.func139 ?_;(conv=>whnf);repeat (refine zy ?_;conv=>whnf))
    repeat' (first|refine zz ?_|refine qp r1 ?_|refine qp r2 ?_|refine qp (a3y _ _) ?_|refine zd ?_ ?_<;>intro h<;>try omega|refine zy ?_|fail)<;>conv=>whnf
    all_goals first
     |omega
     |(exfalso;simp_all;done)
     |exact j8 (b1A hs)
def b1i (a:Bg):Bg:=if J2 a then bz (-bv a) else ⟨0,[]⟩
theorem b8E (a:Bg) (la:a.dl.length<=1000000):a9 Tryz.prog 141 [bgS a] [] (bgS (b1i a)) []:=by
 have r1:=a2I a la
 cases ha:J2 a with
 |false=>
  rw [ha] at r1
  have e:b1i a=⟨0,[]⟩:=by unfold b1i;rw [ha];rfl
  rw [e]
  (refine ac Tryz.func141 ?_;(conv=>whnf);repeat (refine zy ?_;conv=>whnf))
  repeat' (first|refine zz ?_|refine qp r1 ?_|refine zd ?_ ?_<;>intro h<;>try omega|refine zy ?_|fail)<;>conv=>whnf
  all_goals (first|(exfalso;simp_all;done)|exact k8 ⟨rfl,rfl,trivial⟩)
 |true=>
  rw [ha] at r1
  obtain ⟨x,rfl⟩:=a9A ha
  have e:b1i (bz x)=sgn (0 - (bz x).sg) (bz x).dl:=by
   rw [Int.zero_sub]
   unfold b1i
   rw [ha,aY9 (aR6 x).1 (by rcases E9 x with ⟨h,h1⟩|⟨h,h1⟩|⟨h,h1⟩<;>rw [ab4,h]<;>simp [h1,aA6]),a3M,aA6,ab4]
   show bz (-x)=_
   congr 1
   rw [Int.neg_mul,Int.sign_mul_natAbs]
  rw [e]
  have hs:-1<=(bz x).sg∧(bz x).sg<=1:=by rcases E9 x with ⟨h,h1⟩|⟨h,h1⟩|⟨h,h1⟩<;>rw [ab4,h]<;>decide
  (refine ac Tryz.func141 ?_;(conv=>whnf);repeat (refine zy ?_;conv=>whnf))
  repeat' (first|refine zz ?_|refine qp r1 ?_|refine qp (a9i _ la) ?_|refine qp (aC7 _ _ la) ?_|refine zd ?_ ?_<;>intro h<;>try omega|refine zy ?_|fail)<;>conv=>whnf
  all_goals (first|(exfalso;simp_all;done)|exact k8 ⟨rfl,rfl,trivial⟩)
theorem a6X {a:Int} (j:Nat) (hj:j<=62):IntKind.wrap .i64 (BitVec.ofInt (IntKind.bits .i64) a &&& BitVec.ofInt (IntKind.bits .i64) ((2 ^ j - 1:Nat):Int)).toNat=a % ((2 ^ j:Nat):Int):=by
 rw [aJ0 rfl a j hj]
 have hp:(2:Nat) ^ j<=2 ^ 62:=Nat.pow_le_pow_right (by decide) hj
 have h0:0<(2:Nat) ^ j:=Nat.pow_pos (by decide)
 have h1:0<=a % ((2 ^ j:Nat):Int):=Int.emod_nonneg _ (by omega)
 have h2:a % ((2 ^ j:Nat):Int)<((2 ^ j:Nat):Int):=Int.emod_lt_of_pos _ (by omega)
 rw [Int.toNat_of_nonneg h1]
 exact (show I1 .i64 _ _ from a4U (by omega) (by omega)).symm
structure av5 (m n:Int):Prop where
 ok:∀a:Int,X0 .and .i64 a m (a % n)
theorem a64:av5 1048575 1048576:=⟨fun a=>(a6X (a:=a) 20 (by decide)).symm⟩
theorem a9m:av5 1 2:=⟨fun a=>(a6X (a:=a) 1 (by decide)).symm⟩
theorem ah8 (a:Int):b0X .i64 a 20 (a / 1048576):=by
 show a / 1048576=a.fdiv 1048576
 exact (Int.fdiv_eq_ediv_of_nonneg _ (by decide)).symm
theorem L8 {l:List Int} {i:Nat} {n:Int} {v:Int} (h:0+n.toNat=i):(toC (l.map f8)).set (0+n.toNat) [C.t (ti v)]=toC ((l.set i v).map f8):=by
 rw [h];simp [toC,f8,List.map_set]
theorem N5 {l:List Int} {n:Int} {i:Nat} (h:n.toNat=i) (hi:i<l.length):l[0+n.toNat]? =some (dat l i):=by rw [Nat.zero_add,h];exact w5 hi
theorem b87 (a b:List Int) (ha:Okd a) (hb:Okd b) (la:a.length<=400000) (lb:b.length<=400000) (hab:b.length<=a.length):
 a9 Tryz.prog 215 [e7 a,e7 b] [] (e7 (dg (val a+val b).toNat)) []:=by
 have l1:(a.map f8).length=a.length:=by simp
 have l2:(b.map f8).length=b.length:=by simp
 (refine ac Tryz.func215 ?_;(conv=>whnf);repeat (refine zy ?_;conv=>whnf))
 repeat' (first|refine zz ?_|refine a3K (by omega) (by omega) (by omega) (by decide) ?_|refine zd ?_ ?_<;>intro h<;>try omega|refine zy ?_|fail)<;>conv=>whnf
 refine o5 d7 (σ:=Nat × List Int × Int) (fun|(k,out,c)=>([e7 a,e7 b,J,J,J,a0Y 0 out,a7 .i64 c,J,J,J,J,J,J,J,J,J,J,J,J,J,e7 a,a7 .i64 a.length,a7 .i64 k,J,J,J,J,J,J,J,J,J,J,J,J,J,J,J,J,J,J,J,J,J,J,J,J,J,J,J,J,J,J,J,J],[s8 out])) (fun x=>a83 a b x.1 x.2.1 x.2.2) (fun x=>a.length - x.1) (0,List.replicate (a.length+1) 0,0) [some 0]
  (a83.init _ _) ⟨rfl,rfl,⟨a8 rfl rfl rfl ?_ rfl,trivial⟩,⟨i7 rfl,i7 rfl,l9 rfl (by simp),rfl,i7 rfl,b9 (by simp),rfl,trivial⟩⟩ ?_
 ·show List.replicate _ _=_
  simp [toC,f8,E7]
 rintro ⟨k,out,c⟩ hI
 have hI:a83 a b k out c:=hI
 have hlen:=hI.len
 have hle:=hI.le
 have hc0:=hI.c0
 have hc1:=hI.c1
 conv=>whnf
 have hda:=ha.dat k
 have hdb:=hb.dat k
 repeat' (first|refine zz ?_|refine d8 (w5 (by omega)) ?_|refine a0E (by omega) (by show _<((out.length:Nat):Int);omega) ?_|refine s9 (N5 rfl (by omega)) ?_|refine ⟨_,av5.ok (by first|exact a64|exact a9m) _,?_⟩|refine ⟨by decide,_,ah8 _,?_⟩|refine zd ?_ ?_<;>intro h<;>try omega|refine zy ?_|fail)<;>conv=>whnf
 ·refine ⟨[some 0],(k+1,out.set k ((c+dat a k+dat b k) % 1048576),(c+dat a k+dat b k) / 1048576),⟨rfl,rfl,⟨a8 rfl rfl rfl (L8 (by omega)) rfl,trivial⟩,⟨rfl,rfl,l9 rfl (by simp),rfl,rfl,rfl,b9 (by omega),trivial⟩⟩,hI.step ha hb (by omega),?_⟩
  show a.length - (k+1)<a.length - k
  omega
 ·have e:dat b k=0:=P6 (by omega)
  have hst:=hI.step ha hb (by omega)
  rw [e,Int.add_zero] at hst
  refine ⟨[some 0],(k+1,out.set k ((c+dat a k) % 1048576),(c+dat a k) / 1048576),⟨rfl,rfl,⟨a8 rfl rfl rfl (L8 (by omega)) rfl,trivial⟩,⟨rfl,rfl,l9 rfl (by simp),rfl,rfl,rfl,b9 (by omega),trivial⟩⟩,hst,?_⟩
  show a.length - (k+1)<a.length - k
  omega
 ·have hk:k=a.length:=by omega
  subst hk
  have hf:=hI.fin (by omega)
  have t:=a3B (out.set a.length c) (by simp;omega)
  rw [hf] at t
  refine .inr ⟨_,_,x7 [0] t ⟨a0T (v4 (by simp) rfl (by intro h;cases h) rfl (L8 (by omega)) (by simp)),trivial⟩ rfl,?_⟩
  conv=>whnf
  exact aa7 (by rw [Int.add_comm])
theorem b8P (a b:List Int) (ha:Okd a) (hb:Okd b) (la:a.length<=400000) (lb:b.length<=400000) (hab:a.length<b.length):
 a9 Tryz.prog 215 [e7 a,e7 b] [] (e7 (dg (val a+val b).toNat)) []:=by
 have l1:(a.map f8).length=a.length:=by simp
 have l2:(b.map f8).length=b.length:=by simp
 (refine ac Tryz.func215 ?_;(conv=>whnf);repeat (refine zy ?_;conv=>whnf))
 repeat' (first|refine zz ?_|refine a3K (by omega) (by omega) (by omega) (by decide) ?_|refine zd ?_ ?_<;>intro h<;>try omega|refine zy ?_|fail)<;>conv=>whnf
 refine o5 d7 (σ:=Nat × List Int × Int) (fun|(k,out,c)=>([e7 b,e7 a,J,J,J,a0Y 0 out,a7 .i64 c,J,J,J,J,J,J,J,J,J,J,J,J,J,e7 b,a7 .i64 b.length,a7 .i64 k,J,J,J,J,J,J,J,J,J,J,J,J,J,J,J,J,J,J,J,J,J,J,J,J,J,J,J,J,J,J,J,J],[s8 out])) (fun x=>a83 b a x.1 x.2.1 x.2.2) (fun x=>b.length - x.1) (0,List.replicate (b.length+1) 0,0) [some 0]
  (a83.init _ _) ⟨rfl,rfl,⟨a8 rfl rfl rfl ?_ rfl,trivial⟩,⟨i7 rfl,i7 rfl,l9 rfl (by simp),rfl,i7 rfl,b9 (by simp),rfl,trivial⟩⟩ ?_
 ·show List.replicate _ _=_
  simp [toC,f8,E7]
 rintro ⟨k,out,c⟩ hI
 have hI:a83 b a k out c:=hI
 have hlen:=hI.len
 have hle:=hI.le
 have hc0:=hI.c0
 have hc1:=hI.c1
 conv=>whnf
 have hda:=hb.dat k
 have hdb:=ha.dat k
 repeat' (first|refine zz ?_|refine d8 (w5 (by omega)) ?_|refine a0E (by omega) (by show _<((out.length:Nat):Int);omega) ?_|refine s9 (N5 rfl (by omega)) ?_|refine ⟨_,av5.ok (by first|exact a64|exact a9m) _,?_⟩|refine ⟨by decide,_,ah8 _,?_⟩|refine zd ?_ ?_<;>intro h<;>try omega|refine zy ?_|fail)<;>conv=>whnf
 ·refine ⟨[some 0],(k+1,out.set k ((c+dat b k+dat a k) % 1048576),(c+dat b k+dat a k) / 1048576),⟨rfl,rfl,⟨a8 rfl rfl rfl (L8 (by omega)) rfl,trivial⟩,⟨rfl,rfl,l9 rfl (by simp),rfl,rfl,rfl,b9 (by omega),trivial⟩⟩,hI.step hb ha (by omega),?_⟩
  show b.length - (k+1)<b.length - k
  omega
 ·have e:dat a k=0:=P6 (by omega)
  have hst:=hI.step hb ha (by omega)
  rw [e,Int.add_zero] at hst
  refine ⟨[some 0],(k+1,out.set k ((c+dat b k) % 1048576),(c+dat b k) / 1048576),⟨rfl,rfl,⟨a8 rfl rfl rfl (L8 (by omega)) rfl,trivial⟩,⟨rfl,rfl,l9 rfl (by simp),rfl,rfl,rfl,b9 (by omega),trivial⟩⟩,hst,?_⟩
  show b.length - (k+1)<b.length - k
  omega
 ·have hk:k=b.length:=by omega
  subst hk
  have hf:=hI.fin (by omega)
  have t:=a3B (out.set b.length c) (by simp;omega)
  rw [hf] at t
  refine .inr ⟨_,_,x7 [0] t ⟨a0T (v4 (by simp) rfl (by intro h;cases h) rfl (L8 (by omega)) (by simp)),trivial⟩ rfl,?_⟩
  conv=>whnf
  exact aa7 (by rw [Int.add_comm])
theorem b8Y (a b:List Int) (ha:Okd a) (hb:Okd b) (la:a.length<=400000) (lb:b.length<=400000):
 a9 Tryz.prog 215 [e7 a,e7 b] [] (e7 (dg (val a+val b).toNat)) []:=by
 rcases Nat.lt_or_ge a.length b.length with h|h
 ·exact b8P a b ha hb la lb h
 ·exact b87 a b ha hb la lb h
theorem b99 (a b:List Int) (ha:Okd a) (hb:Okd b) (la:a.length<=400000) (lb:b.length<=a.length) (hv:val b<=val a):
 a9 Tryz.prog 216 [e7 a,e7 b] [] (e7 (dg (val a - val b).toNat)) []:=by
 have l1:(a.map f8).length=a.length:=by simp
 have l2:(b.map f8).length=b.length:=by simp
 (refine ac Tryz.func216 ?_;(conv=>whnf);repeat (refine zy ?_;conv=>whnf))
 repeat' (first|refine zz ?_|refine zd ?_ ?_<;>intro h<;>try omega|refine zy ?_|fail)<;>conv=>whnf
 refine .inr ⟨_,_,ak5 (b4r a (by omega)) rfl rfl rfl rfl,?_⟩
 conv=>whnf
 repeat' (first|refine zz ?_|refine zd ?_ ?_<;>intro h<;>try omega|refine zy ?_|fail)<;>conv=>whnf
 refine o5 d7 (σ:=Nat × List Int × Int) (fun|(k,out,c)=>([J,e7 b,J,J,J,a0Y 0 out,a7 .i64 c,J,J,J,J,J,a7 .i64 a.length,a7 .i64 k,J,J,J,J,J,J,J,J,J,J,J,J,J,J,J,J,J,J,J,J,J,J,J,J,J,J,J,J,J],[s8 out])) (fun x=>ai3 a b x.1 x.2.1 x.2.2) (fun x=>a.length - x.1) (0,a,0) [some 0]
  (ai3.init ha) ⟨rfl,rfl,⟨a8 rfl rfl rfl rfl rfl,trivial⟩,⟨i7 rfl,l9 rfl rfl,rfl,b9 (by simp),rfl,trivial⟩⟩ ?_
 rintro ⟨k,out,c⟩ hI
 have hI:ai3 a b k out c:=hI
 have hlen:=hI.len
 have hle:=hI.le
 have hc0:=hI.c0
 have hc1:=hI.c1
 conv=>whnf
 have hda:=hI.ok.dat k
 have hdb:=hb.dat k
 repeat' (first|refine zz ?_|refine d8 (w5 (by omega)) ?_|refine a0E (by omega) (by show _<((out.length:Nat):Int);omega) ?_|refine s9 (N5 (i:=k) rfl (by omega)) ?_|refine ⟨_,av5.ok (by first|exact a64|exact a9m) _,?_⟩|refine ⟨by decide,_,ah8 _,?_⟩|refine zd ?_ ?_<;>intro h<;>try omega|refine zy ?_|fail)<;>conv=>whnf
 ·refine ⟨[some 0],(k+1,out.set k ((dat out k - c - dat b k) % 1048576),(dat out k - c - dat b k) / 1048576 % 2),⟨rfl,rfl,⟨a8 rfl rfl rfl (L8 (by omega)) rfl,trivial⟩,⟨rfl,l9 rfl (by simp),rfl,rfl,b9 (by omega),trivial⟩⟩,hI.step ha hb (by omega),?_⟩
  show a.length - (k+1)<a.length - k
  omega
 ·have e:dat b k=0:=P6 (by omega)
  have hst:=hI.step ha hb (by omega)
  rw [e,Int.sub_zero] at hst
  refine ⟨[some 0],(k+1,out.set k ((dat out k - c) % 1048576),(dat out k - c) / 1048576 % 2),⟨rfl,rfl,⟨a8 rfl rfl rfl (L8 (by omega)) rfl,trivial⟩,⟨rfl,l9 rfl (by simp),rfl,rfl,b9 (by omega),trivial⟩⟩,hst,?_⟩
  show a.length - (k+1)<a.length - k
  omega
 ·have hk:k=a.length:=by omega
  subst hk
  have hf:=hI.fin (by omega) hv
  have t:=a3B out (by omega)
  rw [hf] at t
  refine .inr ⟨_,_,x7 [0] t ⟨a0T (v4 (by simp) rfl (by intro h;cases h) rfl rfl (by simp)),trivial⟩ rfl,?_⟩
  conv=>whnf
  exact aa7 rfl
set_option maxHeartbeats 1000000 in
theorem b7b (a b:List Int) (ha:Okd a) (hb:Okd b) (la:a.length<=400000) (lb:b.length<=400000):
 a9 Tryz.prog 266 [e7 a,e7 b] [] (e7 (dg (val a*val b).toNat)) []:=by
 have l1:(a.map f8).length=a.length:=by simp
 have l2:(b.map f8).length=b.length:=by simp
 (refine ac Tryz.func266 ?_;(conv=>whnf);repeat (refine zy ?_;conv=>whnf))
 repeat' (first|refine zz ?_|refine a3K (by omega) (by omega) (by omega) (by decide) ?_|refine zd ?_ ?_<;>intro h<;>try omega|refine zy ?_|fail)<;>conv=>whnf
 refine o5 d7 (σ:=Nat × List Int) (fun|(i,out)=>([J,e7 b,J,J,J,a0Y 0 out,J,J,J,J,J,J,J,J,J,J,J,J,e7 a,a7 .i64 a.length,a7 .i64 i,J,J,J,J,J,J,J,J,J,J,J,J,J,J,J,J,J,J,J,J,J,J,J,J,J,J,J,J,J,J,J,J,J,J,J,J,J,J,J,J,J,J,J,J,J,J],[s8 out])) (fun x=>a3V a b x.1 x.2) (fun x=>a.length - x.1) (0,List.replicate (a.length+b.length) 0) [some 0]
  (a3V.init a b) ⟨rfl,rfl,⟨a8 rfl rfl rfl ?_ rfl,trivial⟩,⟨i7 rfl,l9 rfl (by simp;omega),i7 rfl,b9 (by simp),rfl,trivial⟩⟩ ?_
 ·show List.replicate _ _=_
  rw [show ((((a.map f8).length:Nat):Int)+((b.map f8).length:Nat)).toNat=a.length+b.length by omega]
  simp [toC,f8,E7]
 rintro ⟨i,out⟩ hI
 have hI:a3V a b i out:=hI
 have hlen:=hI.len
 have hle:=hI.le
 conv=>whnf
 repeat' (first|refine zz ?_|refine d8 (w5 (by omega)) ?_|refine zd ?_ ?_<;>intro h<;>try omega|refine zy ?_|fail)<;>conv=>whnf
 ·have hi:i<a.length:=by omega
  refine o5 d7 (σ:=Nat × List Int × Int) (fun|(k,out,c)=>([J,e7 b,J,J,J,a0Y 0 out,a7 .i64 i,a7 .i64 (dat a i),a7 .i64 c,J,J,J,J,J,J,J,J,J,e7 a,a7 .i64 a.length,a7 .i64 i,J,J,J,J,e7 b,a7 .i64 b.length,a7 .i64 k,J,J,J,J,J,J,J,J,J,J,J,J,J,J,J,J,J,J,J,J,J,J,J,J,J,J,J,J,J,J,J,J,J,J,J,J,J,J,J],[s8 out])) (fun x=>a9S a b i x.1 x.2.1 x.2.2) (fun x=>b.length - x.1) (0,out,0) [some 0]
   hI.start ⟨rfl,rfl,⟨a8 rfl rfl rfl rfl rfl,trivial⟩,⟨i7 rfl,l9 rfl rfl,rfl,rfl,rfl,i7 rfl,rfl,rfl,i7 rfl,b9 (by simp),rfl,trivial⟩⟩ ?_
  rintro ⟨k,out,c⟩ hK
  have hK:a9S a b i k out c:=hK
  have hlen:=hK.len
  have hle:=hK.le
  have hc0:=hK.c0
  have hc1:=hK.c1
  conv=>whnf
  have hdo:=hK.ok.dat (i+k)
  have hm:=a32 (ha.dat i) (hb.dat k)
  have e1:((i:Int)+k).toNat=i+k:=by omega
  have e2:((i:Int)+b.length).toNat=i+b.length:=by omega
  have e3:((i:Int)+((b.map f8).length:Nat)).toNat=i+b.length:=by omega
  have hz:=hK.zero (i+b.length) (Nat.le_refl _)
  repeat' (first|refine zz ?_|refine d8 (w5 (by omega)) ?_|refine a0E (by omega) (by show _<((out.length:Nat):Int);omega) ?_|refine s9 (N5 e1 (by omega)) ?_|refine s9 (N5 e3 (by omega)) ?_|refine ⟨_,av5.ok (by first|exact a64|exact a9m) _,?_⟩|refine ⟨by decide,_,ah8 _,?_⟩|refine zd ?_ ?_<;>intro h<;>try omega|refine zy ?_|fail)<;>conv=>whnf
  ·refine ⟨[some 0],(k+1,out.set (i+k) ((dat out (i+k)+dat a i*dat b k+c) % 1048576),(dat out (i+k)+dat a i*dat b k+c) / 1048576),⟨rfl,rfl,⟨a8 rfl rfl rfl (L8 (by omega)) rfl,trivial⟩,⟨rfl,l9 rfl (by simp),rfl,rfl,rfl,rfl,rfl,rfl,rfl,rfl,b9 (by omega),trivial⟩⟩,hK.step ha hb hi (by omega),?_⟩
   show b.length - (k+1)<b.length - k
   omega
  ·have hk:k=b.length:=by omega
   subst hk
   refine ⟨[some 0],(i+1,out.set (i+b.length) (dat out (i+b.length)+c)),⟨rfl,rfl,⟨a8 rfl rfl rfl (L8 (by omega)) rfl,trivial⟩,⟨rfl,l9 rfl (by simp),rfl,rfl,b9 (by omega),trivial⟩⟩,hK.done ha hb hi,?_⟩
   show a.length - (i+1)<a.length - i
   omega
 ·have hi:i=a.length:=by omega
  subst hi
  have hf:=hI.fin
  have t:=a3B out (by omega)
  rw [hf] at t
  refine .inr ⟨_,_,x7 [0] t ⟨a0T (v4 (by simp) rfl (by intro h;cases h) rfl rfl (by simp)),trivial⟩ rfl,?_⟩
  conv=>whnf
  exact aa7 rfl
set_option maxHeartbeats 1000000 in
theorem b7K (a b:List Int) (ha:Okd a) (hb:Okd b) (la:a.length<=400000) (lb:b.length<=400000):
 a9 Tryz.prog 266 [e7 a,e7 b] [] (.c (.own 0 0 (dg (val a*val b).toNat).length true)) [s8 (a0g (a.length+b.length) (dg (val a*val b).toNat))]:=by
 have l1:(a.map f8).length=a.length:=by simp
 have l2:(b.map f8).length=b.length:=by simp
 (refine ac Tryz.func266 ?_;(conv=>whnf);repeat (refine zy ?_;conv=>whnf))
 repeat' (first|refine zz ?_|refine a3K (by omega) (by omega) (by omega) (by decide) ?_|refine zd ?_ ?_<;>intro h<;>try omega|refine zy ?_|fail)<;>conv=>whnf
 refine o5 d7 (σ:=Nat × List Int) (fun|(i,out)=>([J,e7 b,J,J,J,a0Y 0 out,J,J,J,J,J,J,J,J,J,J,J,J,e7 a,a7 .i64 a.length,a7 .i64 i,J,J,J,J,J,J,J,J,J,J,J,J,J,J,J,J,J,J,J,J,J,J,J,J,J,J,J,J,J,J,J,J,J,J,J,J,J,J,J,J,J,J,J,J,J,J],[s8 out])) (fun x=>a3V a b x.1 x.2) (fun x=>a.length - x.1) (0,List.replicate (a.length+b.length) 0) [some 0]
  (a3V.init a b) ⟨rfl,rfl,⟨a8 rfl rfl rfl ?_ rfl,trivial⟩,⟨i7 rfl,l9 rfl (by simp;omega),i7 rfl,b9 (by simp),rfl,trivial⟩⟩ ?_
 ·show List.replicate _ _=_
  rw [show ((((a.map f8).length:Nat):Int)+((b.map f8).length:Nat)).toNat=a.length+b.length by omega]
  simp [toC,f8,E7]
 rintro ⟨i,out⟩ hI
 have hI:a3V a b i out:=hI
 have hlen:=hI.len
 have hle:=hI.le
 conv=>whnf
 repeat' (first|refine zz ?_|refine d8 (w5 (by omega)) ?_|refine zd ?_ ?_<;>intro h<;>try omega|refine zy ?_|fail)<;>conv=>whnf
 ·have hi:i<a.length:=by omega
  refine o5 d7 (σ:=Nat × List Int × Int) (fun|(k,out,c)=>([J,e7 b,J,J,J,a0Y 0 out,a7 .i64 i,a7 .i64 (dat a i),a7 .i64 c,J,J,J,J,J,J,J,J,J,e7 a,a7 .i64 a.length,a7 .i64 i,J,J,J,J,e7 b,a7 .i64 b.length,a7 .i64 k,J,J,J,J,J,J,J,J,J,J,J,J,J,J,J,J,J,J,J,J,J,J,J,J,J,J,J,J,J,J,J,J,J,J,J,J,J,J,J],[s8 out])) (fun x=>a9S a b i x.1 x.2.1 x.2.2) (fun x=>b.length - x.1) (0,out,0) [some 0]
   hI.start ⟨rfl,rfl,⟨a8 rfl rfl rfl rfl rfl,trivial⟩,⟨i7 rfl,l9 rfl rfl,rfl,rfl,rfl,i7 rfl,rfl,rfl,i7 rfl,b9 (by simp),rfl,trivial⟩⟩ ?_
  rintro ⟨k,out,c⟩ hK
  have hK:a9S a b i k out c:=hK
  have hlen:=hK.len
  have hle:=hK.le
  have hc0:=hK.c0
  have hc1:=hK.c1
  conv=>whnf
  have hdo:=hK.ok.dat (i+k)
  have hm:=a32 (ha.dat i) (hb.dat k)
  have e1:((i:Int)+k).toNat=i+k:=by omega
  have e2:((i:Int)+b.length).toNat=i+b.length:=by omega
  have e3:((i:Int)+((b.map f8).length:Nat)).toNat=i+b.length:=by omega
  have hz:=hK.zero (i+b.length) (Nat.le_refl _)
  repeat' (first|refine zz ?_|refine d8 (w5 (by omega)) ?_|refine a0E (by omega) (by show _<((out.length:Nat):Int);omega) ?_|refine s9 (N5 e1 (by omega)) ?_|refine s9 (N5 e3 (by omega)) ?_|refine ⟨_,av5.ok (by first|exact a64|exact a9m) _,?_⟩|refine ⟨by decide,_,ah8 _,?_⟩|refine zd ?_ ?_<;>intro h<;>try omega|refine zy ?_|fail)<;>conv=>whnf
  ·refine ⟨[some 0],(k+1,out.set (i+k) ((dat out (i+k)+dat a i*dat b k+c) % 1048576),(dat out (i+k)+dat a i*dat b k+c) / 1048576),⟨rfl,rfl,⟨a8 rfl rfl rfl (L8 (by omega)) rfl,trivial⟩,⟨rfl,l9 rfl (by simp),rfl,rfl,rfl,rfl,rfl,rfl,rfl,rfl,b9 (by omega),trivial⟩⟩,hK.step ha hb hi (by omega),?_⟩
   show b.length - (k+1)<b.length - k
   omega
  ·have hk:k=b.length:=by omega
   subst hk
   refine ⟨[some 0],(i+1,out.set (i+b.length) (dat out (i+b.length)+c)),⟨rfl,rfl,⟨a8 rfl rfl rfl (L8 (by omega)) rfl,trivial⟩,⟨rfl,l9 rfl (by simp),rfl,rfl,b9 (by omega),trivial⟩⟩,hK.done ha hb hi,?_⟩
   show a.length - (i+1)<a.length - i
   omega
 ·have hi:i=a.length:=by omega
  subst hi
  have hf:=hI.fin
  have t:=b5m out (by omega)
  have hp:=as4 out
  rw [hf] at t hp
  refine .inr ⟨_,_,t,?_⟩
  conv=>whnf
  have hq:a0g (a.length+b.length) (dg (val a*val b).toNat)=out:=by unfold a0g;rw [← hlen];exact hp
  rw [hq]
  exact ⟨⟨[some 0],rfl,rfl,⟨a8 rfl rfl rfl rfl rfl,trivial⟩,⟨rfl,rfl,rfl,fun h=>h⟩⟩⟩
theorem b4K {r:Int} (h0:0<=r) (h1:r<4398046511104):I1 .i64 (r*2 ^ min (20:Int).toNat (IntKind.bits .i64)) (r*1048576):=by
 show I1 .i64 (r*1048576) (r*1048576)
 exact a4U (by omega) (by omega)
theorem b8O {k:IntKind} (hk:k.bits=64) (R X:Nat) (h1:R<4398046511104) (hx:X<1048576):(BitVec.ofInt k.bits ((R:Int)*1048576) ||| BitVec.ofInt k.bits (X:Int)).toNat=R*1048576+X:=by
 rw [hk,BitVec.toNat_or,BitVec.toNat_ofInt,BitVec.toNat_ofInt]
 have e1:(((R:Int)*1048576) % ((2 ^ 64:Nat):Int)).toNat=R <<< 20:=by
  rw [Nat.shiftLeft_eq];omega
 have e2:((X:Int) % ((2 ^ 64:Nat):Int)).toNat=X:=by omega
 rw [e1,e2,←Nat.shiftLeft_add_eq_or_of_lt (by omega),Nat.shiftLeft_eq]
theorem b8p {r x:Int} (h0:0<=r) (h1:r<4398046511104) (hx0:0<=x) (hx1:x<1048576):X0 .or .i64 (r*1048576) x (r*1048576+x):=by
 obtain ⟨R,rfl⟩:=Int.eq_ofNat_of_zero_le h0
 obtain ⟨X,rfl⟩:=Int.eq_ofNat_of_zero_le hx0
 unfold X0
 simp only
 rw [b8O rfl R X (by omega) (by omega)]
 have e:((R*1048576+X:Nat):Int)=(R:Int)*1048576+X:=by simp
 rw [e]
 exact (show I1 .i64 ((R:Int)*1048576+X) _ from a4U (by omega) (by omega))
theorem b4G {a b:Int} (h0:0<=a) (h1:a<=9223372036854775807) (hb:0<b):I1 .i64 (a.tdiv b) (a / b):=by
 rw [Int.tdiv_eq_ediv_of_nonneg h0]
 have h2:0<=a / b:=Int.ediv_nonneg h0 (by omega)
 have h3:a / b<=a:=Int.ediv_le_self _ h0
 exact a4U (by omega) (by omega)
theorem b1Y {l:List Int} {n:Nat} (h:0<n) (hn:n<=l.length):l[0+((n:Int) - 1).toNat]? =some (dat l (n - 1)):=by rw [Nat.zero_add];exact a1M h hn
theorem b0v (a:List Int) (d:Int) (ha:Okd a) (la:a.length<=1000000) (hd:0<d) (hd2:d<1048576):
 a9 Tryz.prog 264 [e7 a,a7 .i64 d] [] (.tup [e7 (dg (val a / d).toNat),a7 .i64 (val a % d)]) []:=by
 have l1:(a.map f8).length=a.length:=by simp
 (refine ac Tryz.func264 ?_;(conv=>whnf);repeat (refine zy ?_;conv=>whnf))
 repeat' (first|refine zz ?_|refine a3K (by omega) (by omega) (by omega) (by decide) ?_|refine zd ?_ ?_<;>intro h<;>try omega|refine zy ?_|fail)<;>conv=>whnf
 refine o5 d7 (σ:=Nat × List Int × Int) (fun|(j,out,r)=>([e7 a,a7 .i64 d,J,J,J,J,a0Y 0 out,a7 .i64 r,a7 .i64 ((j:Int) - 1),J,J,J,J,J,J,J,J,J,J,J,J,J,J,J,J,J,J,J,J,J,J,J,J,J,J,J,J,J],[s8 out])) (fun x=>a0h a d x.1 x.2.1 x.2.2) (fun x=>x.1) (a.length,List.replicate a.length 0,0) [some 0]
  (a0h.init a hd) ⟨rfl,rfl,⟨a8 rfl rfl rfl ?_ rfl,trivial⟩,⟨i7 rfl,rfl,l9 rfl (by simp),rfl,b9 (by simp),trivial⟩⟩ ?_
 ·show List.replicate _ _=_
  simp [toC,f8,E7]
 rintro ⟨j,out,r⟩ hI
 have hI:a0h a d j out r:=hI
 have hlen:=hI.len
 have hle:=hI.le
 have hr0:=hI.r0
 have hr1:=hI.r1
 have hda:=ha.dat (j - 1)
 conv=>whnf
 repeat' (first|refine zz ?_|refine o7 (by omega) (a1M (by omega) hle) ?_|refine a0E (by omega) (by show _<((out.length:Nat):Int);omega) ?_|refine s9 (b1Y (by omega) (by omega)) ?_|refine ⟨by decide,_,b4K (by omega) (by omega),?_⟩|refine ⟨_,b8p (by omega) (by omega) (by omega) (by omega),?_⟩|refine ⟨by omega,_,b4G (by omega) (by omega) (by omega),?_⟩|refine an9 (by omega) ?_|refine zd ?_ ?_<;>intro h<;>try omega|refine zy ?_|fail)<;>conv=>whnf
 ·obtain ⟨j,rfl⟩:∃i,j=i+1:=⟨j - 1,by omega⟩
  simp only [Nat.add_sub_cancel] at *
  have hst:=hI.step ha hd
  rw [← Int.tmod_eq_emod_of_nonneg (by omega)] at hst
  refine ⟨[some 0],(j,out.set j ((r*1048576+dat a j) / d),(r*1048576+dat a j).tmod d),⟨rfl,rfl,⟨a8 rfl rfl rfl (L8 (by omega)) rfl,trivial⟩,⟨rfl,rfl,l9 rfl (by simp),rfl,b9 (by omega),trivial⟩⟩,hst,?_⟩
  show j<j+1
  omega
 ·have hj:j=0:=by omega
  subst hj
  obtain ⟨hf,hr⟩:=hI.fin ha hd
  have t:=a3B out (by omega)
  rw [hf] at t
  refine .inr ⟨_,_,x7 [0] t ⟨a0T (v4 (by simp) rfl (by intro h;cases h) rfl rfl (by simp)),trivial⟩ rfl,?_⟩
  conv=>whnf
  repeat' (first|refine zz ?_|refine zd ?_ ?_<;>intro h<;>try omega|refine zy ?_|fail)<;>conv=>whnf
  exact k8 ⟨rfl,b9 hr,trivial⟩
theorem b0b {pre out post:List Int} {k:Nat} (h:k<out.length):(pre++out++post)[pre.length+(k:Int).toNat]? =some (dat out k):=by
 rw [List.append_assoc,List.getElem?_append_right (by omega),show pre.length+(k:Int).toNat - pre.length=k by omega,List.getElem?_append_left h]
 exact w5 h
theorem a74 {pre out post:List Int} {k:Nat} {v:Int} (h:k<out.length):(toC ((pre++out++post).map f8)).set (pre.length+(k:Int).toNat) [C.t (ti v)]=toC ((pre++out.set k v++post).map f8):=by
 have e:(pre++out++post).set (pre.length+k) v=pre++out.set k v++post:=by
  rw [List.append_assoc,List.set_append_right _ _ (by omega),show pre.length+k - pre.length=k by omega,List.set_append_left _ _ h,List.append_assoc]
 rw [← e]
 show (toC ((pre++out++post).map f8)).set (pre.length+k) _=_
 simp [toC,f8,List.map_set]
def W2 (w v g:Int):Int:=if g*v<=w then g else g - 1
theorem b4o (pre w post v:List Int) (g:Int) (hw:Okd w) (hv:Okd v) (lw:w.length<=1000000) (lv:v.length<=w.length) (hg:0<=g∧g<1048576) (hgv:g*val v<=val w+val v):
 a9 Tryz.prog 267 [.c (.own 0 pre.length w.length false),e7 v,a7 .i64 g] [s8 (pre++w++post)] (a7 .i64 (W2 (val w) (val v) g))
  [s8 (pre++a0g w.length (dg (val w - W2 (val w) (val v) g*val v).toNat)++post)]:=by
 have l1:(v.map f8).length=v.length:=by simp
 (refine ac Tryz.func267 ?_;(conv=>whnf);repeat (refine zy ?_;conv=>whnf))
 repeat' (first|refine zz ?_|refine zd ?_ ?_<;>intro h<;>try omega|refine zy ?_|fail)<;>conv=>whnf
 refine o5 d7 (σ:=Nat × List Int × Int) (fun|(k,out,c)=>([S.c (C.own 0 pre.length w.length false),e7 v,a7 .i64 g,J,J,J,J,a7 .i64 c,J,J,J,J,J,a7 .i64 w.length,a7 .i64 k,J,J,J,J,J,J,J,J,J,J,J,J,J,J,J,J,J,J,J,J,J,J,J,J,J,J,J,J,J,J,J,J,J,J,J,J,J,J,J,J,J,J,J,J,J,J,J,J,J,J,J,J,J,J,J,J,J,J,J,J,J,J,J],[s8 (pre++out++post)])) (fun x=>a8Q w v g x.1 x.2.1 x.2.2) (fun x=>w.length - x.1) (0,w,0) [some 0]
  (a8Q.init g hw) ⟨rfl,rfl,⟨a8 rfl rfl rfl rfl rfl,trivial⟩,⟨⟨rfl,rfl,rfl,fun h=>h⟩,i7 rfl,rfl,rfl,rfl,rfl,trivial⟩⟩ ?_
 rintro ⟨k,out,c⟩ hI
 have hI:a8Q w v g k out c:=hI
 have hlen:=hI.len
 have hle:=hI.le
 have hc0:=hI.c0
 have hc1:=hI.c1
 have hdo:=hI.ok.dat k
 have hm:=a32 hg (hv.dat k)
 conv=>whnf
 repeat' (first|refine zz ?_|refine d8 (w5 (by omega)) ?_|refine s9 (b0b (by omega)) ?_|refine ⟨_,av5.ok (by first|exact a64|exact a9m) _,?_⟩|refine ⟨by decide,_,ah8 _,?_⟩|refine zd ?_ ?_<;>intro h<;>try omega|refine zy ?_|fail)<;>conv=>whnf
 ·have hst:=hI.step hv hg (by omega)
  refine ⟨[some 0],(k+1,out.set k ((dat out k - c - g*dat v k) % 1048576),-((dat out k - c - g*dat v k) / 1048576)),⟨rfl,rfl,⟨a8 rfl rfl rfl (a74 (by omega)) rfl,trivial⟩,⟨⟨rfl,rfl,rfl,fun h=>h⟩,rfl,rfl,b9 (Int.zero_sub _),rfl,b9 (by omega),trivial⟩⟩,hst,?_⟩
  show w.length - (k+1)<w.length - k
  omega
 ·have hst:=hI.step hv hg (by omega)
  rw [P6 (l:=v) (i:=k) (by omega),Int.mul_zero,Int.sub_zero] at hst
  refine ⟨[some 0],(k+1,out.set k ((dat out k - c) % 1048576),-((dat out k - c) / 1048576)),⟨rfl,rfl,⟨a8 rfl rfl rfl (a74 (by omega)) rfl,trivial⟩,⟨⟨rfl,rfl,rfl,fun h=>h⟩,rfl,rfl,b9 (Int.zero_sub _),rfl,b9 (by omega),trivial⟩⟩,hst,?_⟩
  show w.length - (k+1)<w.length - k
  omega
 ·have hk:k=w.length:=by omega
  subst hk
  have hc:c=0:=by assumption
  obtain ⟨h1,h2⟩:=hI.zero lv hw hv hg.1
  have hq:W2 (val w) (val v) g=g:=by unfold W2;rw [if_pos (h1.1 hc)]
  rw [hq,←h2 hc,←b0Z hI.ok hlen]
  exact ⟨⟨[some 0],rfl,rfl,⟨a8 rfl rfl rfl rfl rfl,trivial⟩,rfl⟩⟩
 ·have hk:k=w.length:=by omega
  subst hk
  have hc:¬c=0:=by assumption
  obtain ⟨h1,h2⟩:=hI.zero lv hw hv hg.1
  have hlt:¬g*val v<=val w:=fun h=>hc (h1.2 h)
  have hq:W2 (val w) (val v) g=g - 1:=by unfold W2;rw [if_neg hlt]
  have hvl:=W8 hv
  have hpw:=a16 lv
  rw [hq]
  refine o5 d7 (σ:=Nat × List Int × Int) (fun|(k,o,c)=>([S.c (C.own 0 pre.length w.length false),e7 v,a7 .i64 g,J,J,J,J,J,J,J,a7 .i64 c,J,J,J,J,J,J,J,J,J,J,J,J,J,J,J,J,J,J,J,J,J,J,J,J,J,J,J,J,J,J,J,J,J,J,J,J,J,a7 .i64 w.length,a7 .i64 k,J,J,J,J,J,J,J,J,J,J,J,J,J,J,J,J,J,J,J,J,J,J,J,J,J,J,J,J],[s8 (pre++o++post)])) (fun x=>a77 out v x.1 x.2.1 x.2.2) (fun x=>w.length - x.1) (0,out,0) [some 0]
   (a77.init hI.ok) ⟨rfl,rfl,⟨a8 rfl rfl rfl rfl rfl,trivial⟩,⟨⟨rfl,rfl,rfl,fun h=>h⟩,i7 rfl,rfl,rfl,rfl,rfl,trivial⟩⟩ ?_
  rintro ⟨k,o,c'⟩ hB
  have hB:a77 out v k o c':=hB
  have hlen2:=hB.len
  have hle2:=hB.le
  have hb0:=hB.c0
  have hb1:=hB.c1
  have hdo:=hB.ok.dat k
  have hdv:=hv.dat k
  conv=>whnf
  repeat' (first|refine zz ?_|refine d8 (w5 (by omega)) ?_|refine s9 (b0b (by omega)) ?_|refine ⟨_,av5.ok (by first|exact a64|exact a9m) _,?_⟩|refine ⟨by decide,_,ah8 _,?_⟩|refine zd ?_ ?_<;>intro h<;>try omega|refine zy ?_|fail)<;>conv=>whnf
  ·have hst:=hB.step hv (by omega)
   refine ⟨[some 0],(k+1,o.set k ((c'+dat o k+dat v k) % 1048576),(c'+dat o k+dat v k) / 1048576),⟨rfl,rfl,⟨a8 rfl rfl rfl (a74 (by omega)) rfl,trivial⟩,⟨⟨rfl,rfl,rfl,fun h=>h⟩,rfl,rfl,rfl,rfl,b9 (by omega),trivial⟩⟩,hst,?_⟩
   show w.length - (k+1)<w.length - k
   omega
  ·have hst:=hB.step hv (by omega)
   rw [P6 (l:=v) (i:=k) (by omega),Int.add_zero] at hst
   refine ⟨[some 0],(k+1,o.set k ((c'+dat o k) % 1048576),(c'+dat o k) / 1048576),⟨rfl,rfl,⟨a8 rfl rfl rfl (a74 (by omega)) rfl,trivial⟩,⟨⟨rfl,rfl,rfl,fun h=>h⟩,rfl,rfl,rfl,rfl,b9 (by omega),trivial⟩⟩,hst,?_⟩
   show w.length - (k+1)<w.length - k
   omega
  ·have hk:k=w.length:=by omega
   subst hk
   have e:=hI.back hB lv (by omega) (by omega)
   have e2:val w - (g - 1)*val v=val w - g*val v+val v:=by rw [Int.sub_mul];omega
   rw [e2,←e,←b0Z hB.ok (by omega)]
   exact ⟨⟨[some 0],rfl,rfl,⟨a8 rfl rfl rfl rfl rfl,trivial⟩,rfl⟩⟩
abbrev aU8 (m n:Nat):S:=.tup [e7 (dg (m / n)),e7 (dg (m % n))]
theorem b8r (m n:Nat) (hn:0<n) (h:m<n) (lm:(dg m).length<=400000) (ln:(dg n).length<=400000):
 a9 Tryz.prog 208 [e7 (dg m),e7 (dg n)] [] (aU8 m n) []:=by
 have c:=a2y (dg m) (dg n) (a1S m) (a1S n) (by omega) (by omega)
 rw [n7,n7,a3b (by omega)] at c
 have e1:m / n=0:=Nat.div_eq_of_lt h
 have e2:m % n=m:=Nat.mod_eq_of_lt h
 unfold aU8
 rw [e1,e2,W1]
 (refine ac Tryz.func208 ?_;(conv=>whnf);repeat (refine zy ?_;conv=>whnf))
 repeat' (first|refine zz ?_|refine qp c ?_|refine qp (a9i _ (by omega)) ?_|refine zd ?_ ?_<;>intro h<;>try omega|refine zy ?_|fail)<;>conv=>whnf
 exact k8 ⟨rfl,rfl,trivial⟩
theorem b8A (m n:Nat) (hn:0<n) (h:n<=m) (hl:(dg n).length=1) (lm:(dg m).length<=400000):
 a9 Tryz.prog 208 [e7 (dg m),e7 (dg n)] [] (aU8 m n) []:=by
 have l2:((dg n).map f8).length=(dg n).length:=by simp
 have c:=a2y (dg m) (dg n) (a1S m) (a1S n) (by omega) (by omega)
 rw [n7,n7] at c
 have hc:0<=O4 m n:=by unfold O4;split<;>(try split)<;>omega
 have hn2:=O5 n
 rw [hl] at hn2
 have hn3:(n:Int)<1048576:=by simpa [pw] using hn2
 have hd:dg n=[(n:Int)]:=by
  rw [a5H hn,show n / 1048576=0 by omega,show n % 1048576=n by omega];rfl
 have sh:=b0v (dg m) n (t9 m) (by omega) (by omega) hn3
 rw [n7] at sh
 have e1:((m:Int) / n).toNat=m / n:=by rw [← Int.natCast_ediv];rfl
 have e2:(m:Int) % n=((m % n:Nat):Int):=by simp
 rw [e1,e2] at sh
 have hr:m % n<n:=Nat.mod_lt _ hn
 have t:=a3B [((m % n:Nat):Int)] (by simp)
 rw [K8 (by intro x hx;simp at hx;omega)] at t
 have e3:(val [((m % n:Nat):Int)]).toNat=m % n:=by simp only [val];omega
 rw [e3] at t
 (refine ac Tryz.func208 ?_;(conv=>whnf);repeat (refine zy ?_;conv=>whnf))
 repeat' (first|refine zz ?_|refine qp c ?_|refine qp sh ?_|refine qp hd ?_|refine o7 (x:=(n:Int)) (by omega) (by rw [hd];rfl) ?_|refine .inl ⟨_,_,a0k t ⟨a0T (az9 rfl),trivial⟩ rfl,?_⟩|refine zd ?_ ?_<;>intro h<;>try omega|refine zy ?_|fail)<;>conv=>whnf
 all_goals (first|omega|exact k8 ⟨rfl,rfl,trivial⟩)
theorem b84 {n k:Nat} {top:Int} (hn:0<n) (ht:dat (dg n) ((dg n).length - 1)=top) (hk:k<=19) (h1:top*2 ^ k<1048576) (h2:¬top*2 ^ k<524288):
 (dg (n*2 ^ k)).length=(dg n).length∧524288<=dat (dg (n*2 ^ k)) ((dg n).length - 1):=by
 have hl:(dg n).length≠0:=by rw [Ne,List.length_eq_zero_iff,Q5];omega
 obtain ⟨l,hl'⟩:∃l,(dg n).length=l+1:=⟨(dg n).length - 1,by omega⟩
 rw [hl',Nat.add_sub_cancel] at ht ⊢
 have e1:=t5 (dg n) l
 rw [lg4 (by omega),n7,ht] at e1
 have a1:=w9 ((t9 n).take l)
 have a2:=W8 ((t9 n).take l)
 rw [List.length_take,Nat.min_eq_left (by omega)] at a2
 have t0:=(t9 n).dat l
 rw [ht] at t0
 obtain ⟨T,rfl⟩:=Int.eq_ofNat_of_zero_le t0.1
 have hp:(0:Int)<2 ^ k:=Int.pow_pos (by decide)
 have hpp:=Q6 l
 have e2:(2:Int) ^ k*2 ^ (20 - k)=1048576:=by rw [← Int.pow_add,show k+(20 - k)=20 by omega];rfl
 have h3:(T:Int)<2 ^ (20 - k):=by
  refine Int.lt_of_mul_lt_mul_left (a:=(2:Int) ^ k) ?_ (Int.le_of_lt hp)
  rw [e2,Int.mul_comm];exact h1
 have h4:((T:Int)+1)*2 ^ k<=1048576:=by
  have:=Int.mul_le_mul_of_nonneg_left (a:=(T:Int)+1) (b:=2 ^ (20 - k)) (c:=2 ^ k) (by omega) (Int.le_of_lt hp)
  rw [e2,Int.mul_comm] at this;exact this
 have hV:(((n*2 ^ k:Nat)):Int)=n*2 ^ k:=by simp
 have h5:((n*2 ^ k:Nat):Int)<pw (l+1):=by
  rw [hV,H4]
  have b1:(n:Int)+1<=pw l*(T+1):=by rw [Int.mul_add];omega
  have b2:=Int.mul_le_mul_of_nonneg_right (c:=(2:Int) ^ k) b1 (Int.le_of_lt hp)
  have b3:=Int.mul_le_mul_of_nonneg_left (c:=pw l) h4 (Int.le_of_lt hpp)
  rw [← Int.mul_assoc] at b3
  rw [Int.add_mul] at b2
  omega
 have h6:pw l*524288<=((n*2 ^ k:Nat):Int):=by
  rw [hV]
  have b1:pw l*T<=(n:Int):=by omega
  have b2:=Int.mul_le_mul_of_nonneg_right (c:=(2:Int) ^ k) b1 (Int.le_of_lt hp)
  have b3:=Int.mul_le_mul_of_nonneg_left (a:=524288) (b:=(T:Int)*2 ^ k) (c:=pw l) (by omega) (Int.le_of_lt hpp)
  rw [← Int.mul_assoc] at b3
  omega
 have h7:(dg (n*2 ^ k)).length=l+1:=by
  have c1:=O3 h5
  rcases Nat.lt_or_ge (dg (n*2 ^ k)).length (l+1) with c2|c2
  ·have c3:=O5 (n*2 ^ k)
   have c4:=a16 (show (dg (n*2 ^ k)).length<=l by omega)
   omega
  ·omega
 refine ⟨h7,?_⟩
 have f1:=t5 (dg (n*2 ^ k)) l
 rw [lg4 (by omega),n7] at f1
 have f2:=W8 ((t9 (n*2 ^ k)).take l)
 rw [List.length_take,Nat.min_eq_left (by omega)] at f2
 rcases Int.lt_or_le (dat (dg (n*2 ^ k)) l) 524288 with c|c
 ·exfalso
  have:=Int.mul_le_mul_of_nonneg_left (a:=dat (dg (n*2 ^ k)) l+1) (b:=524288) (c:=pw l) (by omega) (Int.le_of_lt hpp)
  rw [Int.mul_add] at this
  omega
 ·exact c
theorem b3h {a a' b b':Nat} {x y:S} (h1:a=a') (h2:b=b'):[S.c (.own 0 a b false),x,y]=[S.c (.own 0 a' b' false),x,y]:=by rw [h1,h2]
theorem aY8 {V W v1 top g r:Int} (hG:Y3 V W v1 top g r) (hV:0<V) (hW:0<=W) (h1:g<1048576) (h2:g*V<=W+V):
 0<=W2 W V g∧W2 W V g<1048576∧0<=W - W2 W V g*V∧W - W2 W V g*V<V:=by
 have h3:=hG.hi
 have h4:=hG.g0
 rw [Int.add_mul,Int.one_mul] at h3
 unfold W2
 by_cases hc:g*V<=W
 ·rw [if_pos hc];omega
 ·rw [if_neg hc,Int.sub_mul,Int.one_mul]
  have:g≠0:=by rintro rfl;simp at hc;omega
  omega
set_option maxHeartbeats 4000000 in
theorem b7J (m n:Nat) (hn:0<n) (hmn:n<=m) (hl:2<=(dg n).length) (lm:(dg m).length<=300000) (ln:(dg n).length<=300000):
 a9 Tryz.prog 208 [e7 (dg m),e7 (dg n)] [] (aU8 m n) []:=by
 have l1:((dg m).map f8).length=(dg m).length:=by simp
 have l2:((dg n).map f8).length=(dg n).length:=by simp
 have c:=a2y (dg m) (dg n) (a1S m) (a1S n) (by omega) (by omega)
 rw [n7,n7] at c
 have hc:0<=O4 m n:=by unfold O4;split<;>(try split)<;>omega
 have ht0:=(t9 n).dat ((dg n).length - 1)
 have ht1:dat (dg n) ((dg n).length - 1)≠0:=(a1S n).2 _ (w5 (by omega))
 generalize htop:dat (dg n) ((dg n).length - 1)=top at ht0 ht1
 (refine ac Tryz.func208 ?_;(conv=>whnf);repeat (refine zy ?_;conv=>whnf))
 repeat' (first|refine zz ?_|refine qp c ?_|refine zd ?_ ?_<;>intro h<;>try omega|refine zy ?_|fail)<;>conv=>whnf
 refine o5 d7 (σ:=Nat) (fun k=>([e7 (dg m),e7 (dg n),J,J,J,J,J,J,a7 .i64 (2 ^ k),J,J,J,J,J,J,J,J,J,J,J,J,J,J,J,J,J,J,J,J,J,J,J,J,J,J,J,J,J,J,J,J,J,J,J,J,J,J,J,J,J,J,J,J,J,J,J,J,J,J,J,J,J,J,J,J,J,J,J,J,J,J,J,J,J,J,J,J,J,J,J,J,J,J,J,J,J,J,J,J,J,J,J,J,J,J,J,J,J,J,J,J,J,J,J,J,J,J,J,J,J,J,J,J,J,J,J,J,J,J,J,J,J,J,J,J,J,J,J,J,J,J,J,J,J,J,J,J,J,J,J,J,J,J,J,J,J,J,J,J,J,J,J,J,J,J,J,J,J,J,J,J,J,J,J,J,J,J,J,J,J],[])) (fun k=>k<=19∧top*2 ^ k<1048576) (fun k=>20 - k) 0 []
  ⟨by omega,by omega⟩ ⟨rfl,rfl,trivial,⟨i7 rfl,i7 rfl,rfl,trivial⟩⟩ ?_
 rintro k ⟨hk1,hk2⟩
 have hk1:k<=19:=hk1
 have hk2:top*2 ^ k<1048576:=hk2
 have hp0:(0:Int)<2 ^ k:=Int.pow_pos (by decide)
 have hpt:0<top*2 ^ k:=Int.mul_pos (by omega) hp0
 have hpk:(2:Int) ^ k<=524288:=by
  have:=Nat.pow_le_pow_right (n:=2) (by decide) hk1
  have e:((2 ^ k:Nat):Int)=2 ^ k:=by simp
  omega
 have hgl:(dg n)[(((((dg n).map f8).length:Nat):Int) - 1).toNat]? =some top:=by rw [l2,←htop];exact a6m (by omega)
 conv=>whnf
 repeat' (first|refine zz ?_|refine o7 (by omega) hgl ?_|refine zd ?_ ?_<;>intro h<;>try omega|refine zy ?_|fail)<;>conv=>whnf
 ·have hlt:top*2 ^ k<524288:=by omega
  refine ⟨[],k+1,⟨rfl,rfl,trivial,⟨rfl,rfl,b9 (Int.pow_succ _ _).symm,trivial⟩⟩,⟨?_,?_⟩,?_⟩
  ·rcases Nat.lt_or_ge k 19 with h1|h1
   ·exact h1
   ·have:k=19:=by omega
    subst this
    omega
  ·rw [Int.pow_succ,←Int.mul_assoc];omega
  ·show 20 - (k+1)<20 - k
   omega
 ·have hsh:Okd [(2:Int) ^ k]:=by intro x hx;simp at hx;omega
  have mu:=b7K (dg m) [2 ^ k] (t9 m) hsh (by omega) (by simp)
  have mv:=b7b (dg n) [2 ^ k] (t9 n) hsh (by omega) (by simp)
  have ev:val [(2:Int) ^ k]=2 ^ k:=by simp [val]
  rw [ev,n7] at mu mv
  generalize hU:((m:Int)*2 ^ k).toNat=U at mu
  generalize hV:((n:Int)*2 ^ k).toNat=V at mv
  refine .inr ⟨_,_,ak5 (aZ0 mu ⟨ai6,a0T (az9 rfl),trivial⟩) rfl rfl rfl rfl,?_⟩
  conv=>whnf
  have hVe:V=n*2 ^ k:=by
   have e:((n:Int)*2 ^ k)=((n*2 ^ k:Nat):Int):=by simp
   rw [← hV,e];exact Int.toNat_natCast _
  have hUe:U=m*2 ^ k:=by
   have e:((m:Int)*2 ^ k)=((m*2 ^ k:Nat):Int):=by simp
   rw [← hU,e];exact Int.toNat_natCast _
  obtain ⟨lV,hvt⟩:=b84 hn htop hk1 hk2 h
  rw [← hVe] at lV hvt
  have hp1:0<2 ^ k:=Nat.pow_pos (by decide)
  have lU3:(dg m).length<=(dg U).length:=p4 (by rw [hUe];exact Nat.le_mul_of_pos_right m hp1)
  have lU2:(dg U).length<=(dg m).length+1:=O3 (by
   have h1:=O5 m
   rw [H4,hUe]
   have h2:=Int.mul_le_mul_of_nonneg_left (a:=2 ^ k) (b:=1048576) (c:=(m:Int)+1) (by omega) (by omega)
   have h3:(((m*2 ^ k:Nat)):Int)=m*2 ^ k:=by simp
   rw [Int.add_mul] at h2
   omega)
  have lU1:(a0g ((dg m).length+[(2:Int) ^ k].length) (dg U)).length<=300001:=by rw [as6 (by simpa using lU2)];simp;omega
  have l3:((dg V).map f8).length=(dg V).length:=by simp
  have lmn:(dg n).length<=(dg m).length:=p4 hmn
  have l4:(toC [[T.atm (Value.int .i64 0)]]).length=1:=rfl
  repeat' (first|refine zz ?_|refine qp (toC,a0g) ?_|refine qp toC ?_|refine q9 (by simp [toC,a0g]) (by simp [toC];omega) ?_|refine .inl ⟨_,_,a0k mv ⟨ai6,a0T (az9 rfl),trivial⟩ rfl,?_⟩|refine a3K (by omega) (by omega) (by omega) (by decide) ?_|refine zd ?_ ?_<;>intro h<;>try omega|refine zy ?_|fail)<;>conv=>whnf
  have hV0:0<V:=by rw [hVe];exact Nat.mul_pos hn hp1
  refine o5 d7 (σ:=Nat × List Int × List Int) (fun|(j,u,q)=>([J,J,J,J,J,J,J,J,a7 .i64 (2 ^ k),a0Y 0 u,e7 (dg V),a7 .i64 (dg V).length,a0Y 1 q,a7 .i64 ((j:Int) - 1),J,J,J,J,J,J,J,J,J,J,J,J,J,J,J,J,J,J,J,J,J,J,J,J,J,J,J,J,J,J,J,J,J,J,J,J,J,J,J,J,J,J,J,J,J,J,J,J,J,J,J,J,J,J,J,J,J,J,J,J,J,J,J,J,J,J,J,J,J,J,J,J,J,J,J,J,J,J,J,J,J,J,J,J,J,J,J,J,J,J,J,J,J,J,J,J,J,J,J,J,J,J,J,J,J,J,J,J,J,J,J,J,J,J,J,J,J,J,J,J,J,J,J,J,J,J,J,J,J,J,J,J,J,J,J,J,J,J,J,J,J,J,J,J,J,J,J,J,J,J,J,J,J,J,J,J],[s8 u,s8 q])) (fun x=>a8T U V ((dg U).length+1) (dg V).length x.1 x.2.1 x.2.2) (fun x=>x.1)
   ((dg U).length+1 - (dg V).length,dg U++[0],List.replicate ((dg U).length+1 - (dg V).length) 0) [some 1,some 2]
   (a8T.init hV0 (by omega)) ⟨rfl,rfl,⟨a8 rfl rfl rfl ?_ rfl,a8 rfl rfl rfl ?_ rfl,trivial⟩,⟨rfl,l9 rfl ?_,i7 rfl,b9 (by omega),l9 rfl ?_,b9 ?_,trivial⟩⟩ ?_
  ·simp [toC,C4,a0g,List.map_append,List.take_append,f8]
  ·show List.replicate _ _=_
   simp [toC,f8,E7]
  ·simp [toC]
  ·simp [toC]
  ·simp [toC]
  rintro ⟨j,u,q⟩ hD
  have hD:a8T U V ((dg U).length+1) (dg V).length j u q:=hD
  have hlu:=hD.lu
  have hlq:=hD.lq
  have hle:=hD.le
  have hdt:0<j->dat u (j - 1+(dg V).length)=dat u (j - 1+(dg V).length):=fun _=>rfl
  have gu0:0<j->u[0+(((j:Int) - 1)+(dg V).length).toNat]? =some (dat u (j - 1+(dg V).length)):=fun h=>N5 (by omega) (by omega)
  have gu1:0<j->u[0+(((j:Int) - 1)+(dg V).length - 1).toNat]? =some (dat u (j - 1+(dg V).length - 1)):=fun h=>N5 (by omega) (by omega)
  have d0:=hD.oku.dat (j - 1+(dg V).length)
  have d1:=hD.oku.dat (j - 1+(dg V).length - 1)
  have dv:=(t9 V).dat ((dg V).length - 1)
  have hvt2:524288<=dat (dg V) ((dg V).length - 1):=by rw [lV];exact hvt
  conv=>whnf
  repeat' (first|refine zz ?_|refine a0E (by omega) (by show _<((u.length:Nat):Int);omega) ?_|refine s9 (gu0 (by omega)) ?_|refine s9 (gu1 (by omega)) ?_|refine ⟨by decide,_,b4K (by omega) (by omega),?_⟩|refine ⟨_,b8p (by omega) (by omega) (by omega) (by omega),?_⟩|refine o7 (by omega) (a6m (by omega)) ?_|refine ⟨by omega,_,b4G (by omega) (by omega) (by omega),?_⟩|refine an9 (by omega) ?_|refine zd ?_ ?_<;>intro h<;>try omega|refine zy ?_|fail)<;>conv=>whnf
  ·have hj:0<j:=by omega
   obtain ⟨i,rfl⟩:∃i,j=i+1:=⟨j - 1,by omega⟩
   simp only [Nat.add_sub_cancel] at *
   obtain ⟨L,hL⟩:∃L,(dg V).length=L+2:=⟨(dg V).length - 2,by omega⟩
   obtain ⟨w3,w2,w0,wv,wz,wlt⟩:=hD.window rfl
   generalize hw:(u.drop i).take ((dg V).length+1)=w at w3 w2 wv wlt
   have hwo:Okd w:=by rw [← hw];exact (hD.oku.drop i).take _
   have dw:∀t,t<=(dg V).length->dat w t=dat u (i+t):=fun t ht=>by
    rw [← hw];unfold dat
    rw [lg3,List.getElem?_take,if_pos (by omega),List.getElem?_drop,←lg3]
   have win:=Win.of (t9 V) hwo hL (by omega) (by rw [hL] at hvt2;exact hvt2) (by rw [n7];exact wlt)
   rw [dw (L+2) (by omega),dw (L+1) (by omega),dw L (by omega),n7] at win
   have eL1:(dg V).length - 1=L+1:=by omega
   have eu0:i+(L+2)=i+(dg V).length:=by omega
   have eu1:i+(L+1)=i+(dg V).length - 1:=by omega
   rw [eu0,eu1] at win
   generalize ht:dat u (i+(dg V).length)*1048576+dat u (i+(dg V).length - 1)=top2 at win
   have win':=win
   have ht0:=win.t0
   refine o5 d7 (σ:=Int × Int) (fun|(g,r)=>([J,J,J,J,J,J,J,J,a7 .i64 (2 ^ k),a0Y 0 u,e7 (dg V),a7 .i64 (dg V).length,a0Y 1 q,a7 .i64 i,J,a7 .i64 g,a7 .i64 r,J,J,J,J,J,J,J,J,J,J,J,J,J,J,J,J,J,J,J,J,J,J,J,J,J,J,J,J,J,J,J,J,J,J,J,J,J,J,J,J,J,J,J,J,J,J,J,J,J,J,J,J,J,J,J,J,J,J,J,J,J,J,J,J,J,J,J,J,J,J,J,J,J,J,J,J,J,J,J,J,J,J,J,J,J,J,J,J,J,J,J,J,J,J,J,J,J,J,J,J,J,J,J,J,J,J,J,J,J,J,J,J,J,J,J,J,J,J,J,J,J,J,J,J,J,J,J,J,J,J,J,J,J,J,J,J,J,J,J,J,J,J,J,J,J,J,J,J,J,J,J,J,J],[s8 u,s8 q])) (fun x=>Y3 V (val w) (dat (dg V) (L+1)) top2 x.1 x.2) (fun x=>x.1.toNat)
    (top2 / dat (dg V) (L+1),top2 % dat (dg V) (L+1)) [some 0,some 1]
    (Y3.init win) ⟨rfl,rfl,⟨a8 rfl rfl rfl rfl rfl,a8 rfl rfl rfl rfl rfl,trivial⟩,⟨rfl,l9 rfl rfl,i7 rfl,rfl,l9 rfl rfl,b9 (by omega),b9 ?_,b9 ?_,trivial⟩⟩ ?_
   ·rw [eL1]
   ·rw [eL1,Int.tmod_eq_emod_of_nonneg ht0]
   rintro ⟨g,r⟩ hG
   have hG:Y3 V (val w) (dat (dg V) (L+1)) top2 g r:=hG
   have hg0:=hG.g0
   have hgu:=hG.gu
   have hr0:=hG.r0
   have hru:=hG.ru
   have dv2:=(t9 V).dat L
   have dv1:=(t9 V).dat (L+1)
   have du2:=hD.oku.dat (i+L)
   have hgm:0<=g*dat (dg V) L∧g*dat (dg V) L<=2097152*1048576:=⟨Int.mul_nonneg hg0 dv2.1,Int.mul_le_mul hgu (by omega) dv2.1 (by omega)⟩
   have gv2:(dg V)[((((dg V).length:Nat):Int) - 2).toNat]? =some (dat (dg V) L):=by rw [show ((((dg V).length:Nat):Int) - 2).toNat=L by omega];exact w5 (by omega)
   have gv1:(dg V)[((((dg V).length:Nat):Int) - 1).toNat]? =some (dat (dg V) (L+1)):=by rw [show ((((dg V).length:Nat):Int) - 1).toNat=L+1 by omega];exact w5 (by omega)
   have gu2:u[0+((i:Int)+((dg V).length:Nat) - 2).toNat]? =some (dat u (i+L)):=N5 (by omega) (by omega)
   conv=>whnf
   repeat' (first|refine zz ?_|refine a0E (by omega) (by show _<((u.length:Nat):Int);omega) ?_|refine o7 (by omega) gv2 ?_|refine o7 (by omega) gv1 ?_|refine s9 gu2 ?_|refine ⟨by decide,_,b4K (by omega) (by omega),?_⟩|refine ⟨_,b8p (by omega) (by omega) (by omega) (by omega),?_⟩|refine a41 (by omega) (by omega) (by show _<=((u.length:Nat):Int);omega) ?_|refine zd ?_ ?_<;>intro h<;>try omega|refine zy ?_|fail)<;>conv=>whnf
   ·have hgc:1048576<=g:=by omega
    have hst:=Y3.step win hG (.inl hgc) (w9 hwo)
    exact ⟨[some 0,some 1],(g - 1,r+dat (dg V) (L+1)),⟨rfl,rfl,⟨a8 rfl rfl rfl rfl rfl,a8 rfl rfl rfl rfl rfl,trivial⟩,⟨rfl,l9 rfl rfl,rfl,rfl,l9 rfl rfl,rfl,rfl,rfl,trivial⟩⟩,hst,by have:=hst.g0;show (g - 1).toNat<g.toNat;omega⟩
   ·have hgc:r<1048576∧r*1048576+dat u (i+L)<g*dat (dg V) L:=by omega
    have hst:=Y3.step win hG (.inr hgc) (w9 hwo)
    exact ⟨[some 0,some 1],(g - 1,r+dat (dg V) (L+1)),⟨rfl,rfl,⟨a8 rfl rfl rfl rfl rfl,a8 rfl rfl rfl rfl rfl,trivial⟩,⟨rfl,l9 rfl rfl,rfl,rfl,l9 rfl rfl,rfl,rfl,rfl,trivial⟩⟩,hst,by have:=hst.g0;show (g - 1).toNat<g.toNat;omega⟩
   all_goals
    have hgc:¬(1048576<=g∨(r<1048576∧r*1048576+dat u (i+L)<g*dat (dg V) L)):=by omega
    obtain ⟨hg1,hgV⟩:=Y3.fin win hG hgc (by
     have h1:=win.Vl
     have h3:=win.v1l
     have h2:=Int.mul_le_mul_of_nonneg_left (a:=1048576) (b:=dat (dg V) (L+1)*1048576+dat (dg V) L) (by omega) (Int.le_of_lt win.P0)
     omega)
    have st:=b4o (u.take i) w (u.drop (i+((dg V).length+1))) (dg V) g hwo (t9 V) (by omega) (by omega) ⟨hg0,hg1⟩ (by rw [n7];exact hgV)
    rw [n7] at st
    obtain ⟨q0,q1,q2,q3⟩:=aY8 hG (by omega) (w9 hwo) hg1 hgV
    have hds:=hD.step rfl hV0 ⟨q0,q1⟩ (by rw [hw];exact q2) (by rw [hw];exact q3)
    rw [hw] at hds
    generalize W2 (val w) V g=Q at st q0 q1 q2 q3 hds
    rw [← w3,w2] at st
    generalize hu':u.take i++a0g ((dg V).length+1) (dg (val w - Q*V).toNat)++u.drop (i+((dg V).length+1))=u' at st hds
    refine .inr ⟨_,_,Y1 (H':=[s8 u',s8 q]) [0] st (b3h (by rw [w0];omega) (by omega)) rfl rfl (by decide) ?_ (by simp) (by simp) rfl rfl rfl ?_ ?_,?_⟩
    ·intro i k hk
     match i,hk with
     |0,hk=>
      injection hk with hk
      subst hk
      exact ⟨rfl,rfl,a3E _,_,rfl,G8 rfl⟩
    ·intro i k hk
     match i,hk with
     |0,hk=>
      injection hk with hk
      subst hk
      exact ⟨_,rfl,G8 rfl⟩
    ·intro j hj hn
     match j,hj with
     |0,_=>simp at hn
     |1,_=>rfl
    conv=>whnf
    have hlu':=hds.lu
    refine zz ?_
    conv=>whnf
    repeat' (first|refine zz ?_|refine s9 (N5 rfl (by omega)) ?_|refine zd ?_ ?_<;>intro h<;>try omega|refine zy ?_|fail)<;>conv=>whnf
    exact ⟨[some 0,some 1],(i,u',q.set i Q),⟨rfl,rfl,⟨a8 rfl rfl rfl rfl rfl,a8 rfl rfl rfl (L8 (i:=i) (n:=(i:Int)) (by simp)) rfl,trivial⟩,⟨rfl,l9 rfl (hlu.trans hlu'.symm),rfl,rfl,l9 rfl (by simp),rfl,trivial⟩⟩,hds,by show i<i+1;omega⟩
  ·have hj:j=0:=by omega
   subst hj
   obtain ⟨fq,fu⟩:=hD.fin hV0
   have tu:=a3B u (by omega)
   rw [K8 hD.oku,fu,Int.toNat_natCast] at tu
   have tq:=a3B q (by omega)
   rw [K8 hD.okq,fq,Int.toNat_natCast] at tq
   have lUV:(dg (U % V)).length<=(dg U).length:=p4 (Nat.mod_le _ _)
   have sh:=b0v (dg (U % V)) (2 ^ k) (t9 _) (by omega) (by omega) (by omega)
   have e1:U % V / 2 ^ k=m % n:=by rw [hUe,hVe,Nat.mul_mod_mul_right,Nat.mul_div_cancel _ hp1]
   have e2:U / V=m / n:=by rw [hUe,hVe,Nat.mul_div_mul_right _ _ hp1]
   have e3:((U % V:Nat):Int) / 2 ^ k=((m % n:Nat):Int):=by rw [← e1];simp
   rw [n7,e3,Int.toNat_natCast] at sh
   rw [e2] at tq
   refine .inr ⟨_,_,x7 [0] tu ⟨a0T (v4 (by simp) rfl (by intro h;cases h) rfl rfl (by simp)),trivial⟩ rfl,?_⟩
   conv=>whnf
   repeat' (first|refine zz ?_|refine qp sh ?_|refine zd ?_ ?_<;>intro h<;>try omega|refine zy ?_|fail)<;>conv=>whnf
   refine .inr ⟨_,_,x7 [1] tq ⟨a0T (v4 (by simp) rfl (by intro h;cases h) rfl rfl (by simp)),trivial⟩ rfl,?_⟩
   conv=>whnf
   exact k8 ⟨rfl,rfl,trivial⟩
theorem b7i (m n:Nat) (hn:0<n) (lm:(dg m).length<=300000) (ln:(dg n).length<=300000):
 a9 Tryz.prog 208 [e7 (dg m),e7 (dg n)] [] (aU8 m n) []:=by
 rcases Nat.lt_or_ge m n with h|h
 ·exact b8r m n hn h (by omega) (by omega)
 ·have h1:(dg n).length≠0:=by rw [Ne,List.length_eq_zero_iff,Q5];omega
  by_cases hl:(dg n).length=1
  ·exact b8A m n hn h hl (by omega)
  ·exact b7J m n hn h (by omega) lm ln
set_option maxHeartbeats 1000000
theorem b58 (m n:Nat) (lm:(dg m).length<=300000) (ln:(dg n).length<=300000):
 a9 Tryz.prog 215 [e7 (dg m),e7 (dg n)] [] (e7 (dg (m+n))) []:=by
 have h:=b8Y (dg m) (dg n) (t9 m) (t9 n) (by omega) (by omega)
 rw [n7,n7,show ((m:Int)+n).toNat=m+n by omega] at h
 exact h
theorem a9D (m n:Nat) (lm:(dg m).length<=300000) (h:n<=m):
 a9 Tryz.prog 216 [e7 (dg m),e7 (dg n)] [] (e7 (dg (m - n))) []:=by
 have h:=b99 (dg m) (dg n) (t9 m) (t9 n) (by omega) (p4 h) (by rw [n7,n7];omega)
 rw [n7,n7,show ((m:Int) - n).toNat=m - n by omega] at h
 exact h
theorem b8N (m n:Nat) (lm:(dg m).length<=300000) (ln:(dg n).length<=300000):
 a9 Tryz.prog 266 [e7 (dg m),e7 (dg n)] [] (e7 (dg (m*n))) []:=by
 have h:=b7b (dg m) (dg n) (t9 m) (t9 n) (by omega) (by omega)
 rw [n7,n7,show ((m:Int)*n).toNat=m*n by rw [← Int.natCast_mul];rfl] at h
 exact h
theorem b7X (m n:Nat) (lm:(dg m).length<=300000) (ln:(dg n).length<=300000):
 a9 Tryz.prog 212 [e7 (dg m),e7 (dg n)] [] (a7 .i64 (O4 m n)) []:=by
 have h:=a2y (dg m) (dg n) (a1S m) (a1S n) (by omega) (by omega)
 rw [n7,n7] at h
 exact h
theorem x8 (s:Int) (k:Nat) (h:s=1∨s=-1∨k=0) (lk:(dg k).length<=700000):
 a9 Tryz.prog 209 [a7 .i64 s,e7 (dg k)] [] (bgS (bz (s*k))) []:=by
 have e:=aC7 s (dg k) (by omega)
 rw [aY9 (t9 k) (by rw [n7];omega),n7] at e
 exact e
def Sg (s:Int) (m:Nat):Prop:=(s=0∧m=0)∨(s=1∧0<m)∨(s=-1∧0<m)
theorem a5v (x:Int):Sg x.sign x.natAbs:=by
 rcases E9 x with ⟨e,h1⟩|⟨e,h1⟩|⟨e,h1⟩
 ·exact .inl ⟨e,by omega⟩
 ·exact .inr (.inl ⟨e,by omega⟩)
 ·exact .inr (.inr ⟨e,by omega⟩)
theorem a6H {s:Int} {m:Nat} (h:Sg s m):bz (s*m)=⟨s,dg m⟩:=by
 rcases h with ⟨rfl,rfl⟩|⟨rfl,h⟩|⟨rfl,h⟩
 ·rfl
 ·unfold bz;rw [Int.one_mul,Int.sign_eq_one_of_pos (by omega)];rfl
 ·unfold bz;rw [Int.sign_eq_neg_one_of_neg (by omega)];congr 2;omega
theorem a1T (s:Int) (m:Nat) (h:Sg s m) (lm:(dg m).length<=300000):a9 Tryz.prog 135 [bgS ⟨s,dg m⟩] [] (f9 true) []:=by
 have:=a2I ⟨s,dg m⟩ (show (dg m).length<=1000000 by omega)
 rw [← a6H h,a04,a6H h] at this
 exact this
theorem a62 {b b':Bg} {e:Int} {H1:Hp} (h:b=b'):Fin 0 (.tup [bgS b,a7 .i64 e]) H1 (.tup [bgS b',a7 .i64 e]) []:=by
 subst h;exact k8 ⟨⟨rfl,rfl,trivial⟩,rfl,trivial⟩
theorem G7 {a b c d:Nat} (h:a<=max b c+1) (h2:max b c+1<=d):a<=d:=Nat.le_trans h h2
theorem b7r (s t:Int) (m n:Nat) (hs:Sg s m) (ht:Sg t n) (lm:(dg m).length<=200000) (ln:(dg n).length<=200000):
 a9 Tryz.prog 142 [bgS ⟨s,dg m⟩,bgS ⟨t,dg n⟩] [] (.tup [bgS (bz (s*m+t*n)),a7 .i64 0]) []:=by
 have r1:=a1T s m hs (by omega)
 have r2:=a1T t n ht (by omega)
 have ad:=b58 m n (by omega) (by omega)
 have c:=b7X m n (by omega) (by omega)
 have ls:=a3D m n
 have fin:∀(z:Int) (H1:Hp),z=s*m+t*n->Fin 0 (.tup [bgS (if true then bz z else ⟨0,[]⟩),a7 .i64 0]) H1 (.tup [bgS (bz (s*m+t*n)),a7 .i64 0]) []:=fun z H1 h=>a62 (by rw [h];rfl)
 rcases hs with ⟨rfl,rfl⟩|⟨rfl,h1⟩|⟨rfl,h1⟩<;>rcases ht with ⟨rfl,rfl⟩|⟨rfl,h2⟩|⟨rfl,h2⟩
 case inl.inl=>
  have sg:=x8 (0) _ (by omega) (G7 ls (by omega))
  have co:=a3q (0) (0)
  (refine ac Tryz.func142 ?_;(conv=>whnf);repeat (refine zy ?_;conv=>whnf))
  repeat' (first|refine zz ?_|refine qp r1 ?_|refine qp r2 ?_|refine qp ad ?_|refine qp sg ?_|refine qp (I9 true _) ?_|refine qp co ?_|refine ⟨_,D4 (y:=0) rfl (by decide) (by decide),?_⟩|refine zd ?_ ?_<;>intro h<;>try omega|refine zy ?_|fail)<;>conv=>whnf
  all_goals first|omega|exact fin _ _ (by omega)
 case inl.inr.inl=>
  have sg:=x8 (1) _ (by omega) (G7 ls (by omega))
  have co:=a3q (0) (1)
  (refine ac Tryz.func142 ?_;(conv=>whnf);repeat (refine zy ?_;conv=>whnf))
  repeat' (first|refine zz ?_|refine qp r1 ?_|refine qp r2 ?_|refine qp ad ?_|refine qp sg ?_|refine qp (I9 true _) ?_|refine qp co ?_|refine ⟨_,D4 (y:=0) rfl (by decide) (by decide),?_⟩|refine zd ?_ ?_<;>intro h<;>try omega|refine zy ?_|fail)<;>conv=>whnf
  all_goals first|omega|exact fin _ _ (by omega)
 case inl.inr.inr=>
  have sg:=x8 (-1) _ (by omega) (G7 ls (by omega))
  have co:=a3q (0) (-1)
  (refine ac Tryz.func142 ?_;(conv=>whnf);repeat (refine zy ?_;conv=>whnf))
  repeat' (first|refine zz ?_|refine qp r1 ?_|refine qp r2 ?_|refine qp ad ?_|refine qp sg ?_|refine qp (I9 true _) ?_|refine qp co ?_|refine ⟨_,D4 (y:=0) rfl (by decide) (by decide),?_⟩|refine zd ?_ ?_<;>intro h<;>try omega|refine zy ?_|fail)<;>conv=>whnf
  all_goals first|omega|exact fin _ _ (by omega)
 case inr.inl.inl=>
  have sg:=x8 (1) _ (by omega) (G7 ls (by omega))
  have co:=a3q (1) (0)
  (refine ac Tryz.func142 ?_;(conv=>whnf);repeat (refine zy ?_;conv=>whnf))
  repeat' (first|refine zz ?_|refine qp r1 ?_|refine qp r2 ?_|refine qp ad ?_|refine qp sg ?_|refine qp (I9 true _) ?_|refine qp co ?_|refine ⟨_,D4 (y:=0) rfl (by decide) (by decide),?_⟩|refine zd ?_ ?_<;>intro h<;>try omega|refine zy ?_|fail)<;>conv=>whnf
  all_goals first|omega|exact fin _ _ (by omega)
 case inr.inr.inl=>
  have sg:=x8 (-1) _ (by omega) (G7 ls (by omega))
  have co:=a3q (-1) (0)
  (refine ac Tryz.func142 ?_;(conv=>whnf);repeat (refine zy ?_;conv=>whnf))
  repeat' (first|refine zz ?_|refine qp r1 ?_|refine qp r2 ?_|refine qp ad ?_|refine qp sg ?_|refine qp (I9 true _) ?_|refine qp co ?_|refine ⟨_,D4 (y:=0) rfl (by decide) (by decide),?_⟩|refine zd ?_ ?_<;>intro h<;>try omega|refine zy ?_|fail)<;>conv=>whnf
  all_goals first|omega|exact fin _ _ (by omega)
 case inr.inl.inr.inl=>
  have sg:=x8 (1) _ (by omega) (G7 ls (by omega))
  have co:=a3q (1) (1)
  (refine ac Tryz.func142 ?_;(conv=>whnf);repeat (refine zy ?_;conv=>whnf))
  repeat' (first|refine zz ?_|refine qp r1 ?_|refine qp r2 ?_|refine qp ad ?_|refine qp sg ?_|refine qp (I9 true _) ?_|refine qp co ?_|refine ⟨_,D4 (y:=1) rfl (by decide) (by decide),?_⟩|refine zd ?_ ?_<;>intro h<;>try omega|refine zy ?_|fail)<;>conv=>whnf
  all_goals first|omega|exact fin _ _ (by omega)
 case inr.inr.inr.inr=>
  have sg:=x8 (-1) _ (by omega) (G7 ls (by omega))
  have co:=a3q (-1) (-1)
  (refine ac Tryz.func142 ?_;(conv=>whnf);repeat (refine zy ?_;conv=>whnf))
  repeat' (first|refine zz ?_|refine qp r1 ?_|refine qp r2 ?_|refine qp ad ?_|refine qp sg ?_|refine qp (I9 true _) ?_|refine qp co ?_|refine ⟨_,D4 (y:=1) rfl (by decide) (by decide),?_⟩|refine zd ?_ ?_<;>intro h<;>try omega|refine zy ?_|fail)<;>conv=>whnf
  all_goals first|omega|exact fin _ _ (by omega)
 case inr.inl.inr.inr=>
  rcases Nat.lt_or_ge m n with hmn|hmn
  ·rw [a3b (by omega)] at c
   have l3:=p4 (Nat.sub_le n m)
   (refine ac Tryz.func142 ?_;(conv=>whnf);repeat (refine zy ?_;conv=>whnf))
   repeat' (first|refine zz ?_|refine qp r1 ?_|refine qp r2 ?_|refine qp c ?_|refine qp (a9D n m (by omega) (by omega)) ?_|refine qp (x8 (-1) (n - m) (by omega) (by omega)) ?_|refine qp (I9 true _) ?_|refine ⟨_,D4 (y:=-1) rfl (by decide) (by decide),?_⟩|refine zd ?_ ?_<;>intro h<;>try omega|refine zy ?_|fail)<;>conv=>whnf
   all_goals first|omega|exact fin _ _ (by omega)
  ·have hc:0<=O4 m n:=by unfold O4;split<;>(try split)<;>omega
   have l3:=p4 (Nat.sub_le m n)
   (refine ac Tryz.func142 ?_;(conv=>whnf);repeat (refine zy ?_;conv=>whnf))
   repeat' (first|refine zz ?_|refine qp r1 ?_|refine qp r2 ?_|refine qp c ?_|refine qp (a9D m n (by omega) (by omega)) ?_|refine qp (x8 (1) (m - n) (by omega) (by omega)) ?_|refine qp (I9 true _) ?_|refine ⟨_,D4 (y:=-1) rfl (by decide) (by decide),?_⟩|refine zd ?_ ?_<;>intro h<;>try omega|refine zy ?_|fail)<;>conv=>whnf
   all_goals first|omega|exact fin _ _ (by omega)
 case inr.inr.inr.inl=>
  rcases Nat.lt_or_ge m n with hmn|hmn
  ·rw [a3b (by omega)] at c
   have l3:=p4 (Nat.sub_le n m)
   (refine ac Tryz.func142 ?_;(conv=>whnf);repeat (refine zy ?_;conv=>whnf))
   repeat' (first|refine zz ?_|refine qp r1 ?_|refine qp r2 ?_|refine qp c ?_|refine qp (a9D n m (by omega) (by omega)) ?_|refine qp (x8 (1) (n - m) (by omega) (by omega)) ?_|refine qp (I9 true _) ?_|refine ⟨_,D4 (y:=-1) rfl (by decide) (by decide),?_⟩|refine zd ?_ ?_<;>intro h<;>try omega|refine zy ?_|fail)<;>conv=>whnf
   all_goals first|omega|exact fin _ _ (by omega)
  ·have hc:0<=O4 m n:=by unfold O4;split<;>(try split)<;>omega
   have l3:=p4 (Nat.sub_le m n)
   (refine ac Tryz.func142 ?_;(conv=>whnf);repeat (refine zy ?_;conv=>whnf))
   repeat' (first|refine zz ?_|refine qp r1 ?_|refine qp r2 ?_|refine qp c ?_|refine qp (a9D m n (by omega) (by omega)) ?_|refine qp (x8 (-1) (m - n) (by omega) (by omega)) ?_|refine qp (I9 true _) ?_|refine ⟨_,D4 (y:=-1) rfl (by decide) (by decide),?_⟩|refine zd ?_ ?_<;>intro h<;>try omega|refine zy ?_|fail)<;>conv=>whnf
   all_goals first|omega|exact fin _ _ (by omega)
theorem sgm (x:Int):x.sign*x.natAbs=x:=Int.sign_mul_natAbs x
theorem a4r (x:Int) (lx:bl x<=300000):a9 Tryz.prog 135 [bgS (bz x)] [] (f9 true) []:=a1T _ _ (a5v x) lx
theorem b8u (x y:Int) (lx:bl x<=200000) (ly:bl y<=200000):a9 Tryz.prog 142 [bgS (bz x),bgS (bz y)] [] (.tup [bgS (bz (x+y)),a7 .i64 0]) []:=by
 have h:=b7r _ _ _ _ (a5v x) (a5v y) lx ly
 rw [sgm,sgm] at h
 exact h
theorem a7Y (x:Int) (lx:bl x<=300000):a9 Tryz.prog 141 [bgS (bz x)] [] (bgS (bz (-x))) []:=by
 have h:=b8E (bz x) (show bl x<=1000000 by omega)
 unfold b1i at h
 rw [a04,a3M] at h
 exact h
abbrev bg2 (s:Int) (l:List Int):S:=.agg [.t (ti s),.t (L5 l)]
theorem b7U (s t:Int) (m n:Nat) (hs:Sg s m) (ht:Sg t n) (lm:(dg m).length<=200000) (ln:(dg n).length<=200000):
 a9 Tryz.prog 213 [bgS ⟨s,dg m⟩,bgS ⟨t,dg n⟩] [] (.tup [bgS (bz ((s*t)*(m*n:Nat))),a7 .i64 0]) []:=by
 have r1:=a1T s m hs (by omega)
 have r2:=a1T t n ht (by omega)
 have mu:=b8N m n (by omega) (by omega)
 have ls:=a3h m n
 have hst:-1<=s*t∧s*t<=1∧(s*t=1∨s*t=-1∨m*n=0):=by
  rcases hs with ⟨rfl,rfl⟩|⟨rfl,h1⟩|⟨rfl,h1⟩<;>rcases ht with ⟨rfl,rfl⟩|⟨rfl,h2⟩|⟨rfl,h2⟩<;>simp
 obtain ⟨q1,q2,q3⟩:=hst
 have sg:=x8 (s*t) (m*n) q3 (by omega)
 have ck:=I9 true (bz ((s*t)*(m*n:Nat)))
 (refine ac Tryz.func213 ?_;(conv=>whnf);repeat (refine zy ?_;conv=>whnf))
 repeat' (first|refine zz ?_|refine qp r1 ?_|refine qp r2 ?_|refine qp mu ?_|refine qp sg ?_|refine qp ck ?_|refine ⟨_,D4 (y:=s*t) rfl (by omega) (by omega),?_⟩|refine zd ?_ ?_<;>intro h<;>try omega|refine zy ?_|fail)<;>conv=>whnf
 all_goals first|(exfalso;simp_all;done)|exact a62 rfl
theorem b7R (x y:Int) (lx:bl x<=200000) (ly:bl y<=200000):a9 Tryz.prog 213 [bgS (bz x),bgS (bz y)] [] (.tup [bgS (bz (x*y)),a7 .i64 0]) []:=by
 have h:=b7U _ _ _ _ (a5v x) (a5v y) lx ly
 have e:(x.sign*y.sign)*((x.natAbs*y.natAbs:Nat):Int)=x*y:=by
  rw [Int.natCast_mul]
  have h1:=sgm x
  have h2:=sgm y
  grind
 rw [e] at h
 exact h
theorem aW6 (x y:Int) (lx:bl x<=300000) (ly:bl y<=300000):a9 Tryz.prog 139 [bgS (bz x),bgS (bz y)] [] (a7 .i64 (O4 x y)) []:=by
 have h:=aP0 (bz x) (bz y) (show bl x<=1000000 by omega) (show bl y<=1000000 by omega)
 unfold b1B at h
 rw [a04,a04,a3M,a3M] at h
 exact h
theorem b0U {b b' c c':Bg} {e:Int} {H1:Hp} (h:b=b') (h2:c=c'):Fin 0 (.tup [bgS b,bgS c,a7 .i64 e]) H1 (.tup [bgS b',bgS c',a7 .i64 e]) []:=by
 subst h h2;exact k8 ⟨⟨rfl,rfl,trivial⟩,⟨rfl,rfl,trivial⟩,rfl,trivial⟩
theorem b7B (s:Int) (m n:Nat) (hs:Sg s m) (hn:0<n) (lm:(dg m).length<=200000) (ln:(dg n).length<=200000):
 a9 Tryz.prog 217 [bgS ⟨s,dg m⟩,bgS ⟨1,dg n⟩] [] (.tup [bgS (bz (s*m / n)),bgS (bz (s*m % n)),a7 .i64 0]) []:=by
 show a9 Tryz.prog 217 [bg2 s (dg m),bg2 1 (dg n)] [] _ []
 have r1:=a1T s m hs (by omega)
 have r2:=a1T 1 n (.inr (.inl ⟨rfl,hn⟩)) (by omega)
 have dv:=b7i m n hn (by omega) (by omega)
 have lq:=p4 (Nat.div_le_self m n)
 have hr:=Nat.mod_lt m hn
 have lr:=p4 (Nat.le_of_lt hr)
 have lr2:((dg (m % n)).map f8).length=(dg (m % n)).length:=by simp
 have hz:(dg (m % n)).length=0↔m % n=0:=by rw [List.length_eq_zero_iff,Q5]
 have hm:=Nat.div_add_mod m n
 have fin:∀(a b:Int) (H1:Hp),a=s*m / n->b=s*m % n->Fin 0 (.tup [bgS (bz a),bgS (bz b),a7 .i64 0]) H1 (.tup [bgS (bz (s*m / n)),bgS (bz (s*m % n)),a7 .i64 0]) []:=fun a b H1 h1 h2=>b0U (by rw [h1]) (by rw [h2])
 rcases hs with ⟨rfl,rfl⟩|⟨rfl,h1⟩|⟨rfl,h1⟩
 ·have s1:=x8 0 (0 / n) (by simp) (by omega)
  have s2:=x8 0 (0 % n) (by simp) (by omega)
  (refine ac Tryz.func217 ?_;(conv=>whnf);repeat (refine zy ?_;conv=>whnf))
  repeat' (first|refine zz ?_|refine qp r1 ?_|refine qp r2 ?_|refine qp dv ?_|refine qp s1 ?_|refine qp s2 ?_|refine ⟨_,D4 (y:=0) rfl (by decide) (by decide),?_⟩|refine zd ?_ ?_<;>intro h<;>try omega|refine zy ?_|fail)<;>conv=>whnf
  all_goals first|omega|exact fin _ _ _ (by first|rfl|simp) (by first|rfl|simp)
 ·have s1:=x8 1 (m / n) (by simp) (by omega)
  have s2:=x8 1 (m % n) (by simp) (by omega)
  (refine ac Tryz.func217 ?_;(conv=>whnf);repeat (refine zy ?_;conv=>whnf))
  repeat' (first|refine zz ?_|refine qp r1 ?_|refine qp r2 ?_|refine qp dv ?_|refine qp s1 ?_|refine qp s2 ?_|refine ⟨_,D4 (y:=1) rfl (by decide) (by decide),?_⟩|refine zd ?_ ?_<;>intro h<;>try omega|refine zy ?_|fail)<;>conv=>whnf
  all_goals first|omega|exact fin _ _ _ (by first|rfl|simp) (by first|rfl|simp)
 ·by_cases h0:m % n=0
  ·have hz0:=hz.2 h0
   have s1:=x8 (-1) (m / n) (by simp) (by omega)
   have s2:=x8 (-1) (m % n) (by simp) (by omega)
   have e1:-1*((m / n:Nat):Int)=-1*(m:Int) / n:=by
    have e:(m:Int)=n*(m / n:Nat):=by rw [← Int.natCast_mul];congr 1;omega
    rw [e,show -1*((n:Int)*(m / n:Nat))=n*(-1*(m / n:Nat)) by grind,Int.mul_ediv_cancel_left _ (by omega)]
   have e2:-1*((m % n:Nat):Int)=-1*(m:Int) % n:=by
    have e:(m:Int)=n*(m / n:Nat):=by rw [← Int.natCast_mul];congr 1;omega
    rw [h0,e,show -1*((n:Int)*(m / n:Nat))=n*(-1*(m / n:Nat)) by grind,Int.mul_emod_right]
    simp
   (refine ac Tryz.func217 ?_;(conv=>whnf);repeat (refine zy ?_;conv=>whnf))
   repeat' (first|refine zz ?_|refine qp r1 ?_|refine qp r2 ?_|refine qp dv ?_|refine qp s1 ?_|refine qp s2 ?_|refine ⟨_,D4 (y:=-1) rfl (by decide) (by decide),?_⟩|refine zd ?_ ?_<;>intro h<;>try omega|refine zy ?_|fail)<;>conv=>whnf
   all_goals first|omega|exact fin _ _ _ e1 e2
  ·have hz0:(dg (m % n)).length≠0:=fun h=>h0 (hz.1 h)
   have one:dg 1=[1]:=rfl
   have ad:=b58 (m / n) 1 (by omega) (by simp [one])
   have sb:=a9D n (m % n) (by omega) (by omega)
   have l1:=a3D (m / n) 1
   have l2:=p4 (Nat.sub_le n (m % n))
   have s1:=x8 (-1) (m / n+1) (by simp) (by rw [one] at l1;simp at l1;omega)
   have s2:=x8 1 (n - m % n) (by simp) (by omega)
   have key:(-1*(m:Int))=(n - m % n:Nat)+n*(-1*((m / n+1:Nat):Int)):=by
    have e:(m:Int)=n*(m / n:Nat)+(m % n:Nat):=by rw [← Int.natCast_mul];omega
    have e2:((n - m % n:Nat):Int)=n - (m % n:Nat):=by omega
    have e3:((m / n+1:Nat):Int)=(m / n:Nat)+1:=by omega
    rw [e2,e3]
    grind
   have e1:-1*((m / n+1:Nat):Int)=-1*(m:Int) / n:=by
    rw [key,Int.add_mul_ediv_left _ _ (by omega),Int.ediv_eq_zero_of_lt (by omega) (by omega)]
    simp
   have e2:1*((n - m % n:Nat):Int)=-1*(m:Int) % n:=by
    rw [key,Int.add_mul_emod_self_left,Int.emod_eq_of_lt (by omega) (by omega)]
    simp
   (refine ac Tryz.func217 ?_;(conv=>whnf);repeat (refine zy ?_;conv=>whnf))
   repeat' (first|refine zz ?_|refine qp r1 ?_|refine qp r2 ?_|refine qp dv ?_|refine qp s1 ?_|refine qp s2 ?_|refine qp sb ?_|refine .inl ⟨_,_,a0k ad ⟨ai6,a0T (az9 rfl),trivial⟩ rfl,?_⟩|refine ⟨_,D4 (y:=-1) rfl (by decide) (by decide),?_⟩|refine zd ?_ ?_<;>intro h<;>try omega|refine zy ?_|fail)<;>conv=>whnf
   all_goals first|omega|exact fin _ _ _ e1 e2
theorem at3 (x y:Int) (hy:0<y) (lx:bl x<=200000) (ly:bl y<=200000):a9 Tryz.prog 217 [bgS (bz x),bgS (bz y)] [] (.tup [bgS (bz (x / y)),bgS (bz (x % y)),a7 .i64 0]) []:=by
 have h:=b7B _ _ y.natAbs (a5v x) (by omega) lx ly
 rw [sgm,show (y.natAbs:Int)=y by omega] at h
 unfold bz at *
 rw [Int.sign_eq_one_of_pos hy]
 exact h
abbrev b1U:Blk:={ mode:=.live,elem:=81,size:=2,rows:=[[E7 (.int .i64 0),E7 (.slice none 0 0)]],box:=true }
theorem V4:K2 [[E7 (.int .i64 0),E7 (.slice none 0 0)]]:=by
 intro r hr c hc
 simp at hr
 subst hr
 simp at hc
 rcases hc with rfl|rfl<;>rfl
structure b6Q (x y:Int) (X Y:Nat):Prop where
 g:Nat.gcd X Y=Nat.gcd x.natAbs y.natAbs
 lx:(dg X).length<=200000
 ly:(dg Y).length<=200000
theorem aY4 (x y:Int) (lx:bl x<=200000) (ly:bl y<=200000):a9 Tryz.prog 136 [bgS (bz x),bgS (bz y)] [] (.tup [bgS (bz (Int.gcd x y)),a7 .i64 0]) []:=by
 have r1:=a4r x (by omega)
 have r2:=a4r y (by omega)
 have cl:=a9i (bz x).dl (show bl x<=1000000 by omega)
 (refine ac Tryz.func136 ?_;(conv=>whnf);repeat (refine zy ?_;conv=>whnf))
 repeat' (first|refine zz ?_|refine qp r1 ?_|refine qp r2 ?_|refine qp cl ?_|refine zd ?_ ?_<;>intro h<;>try omega|refine zy ?_|fail)<;>conv=>whnf
 all_goals first
  |(exfalso;simp_all;done)
  |skip
 refine o5 d7 (σ:=Nat × Nat) (fun|(X,Y)=>([J,J,J,J,S.c (C.ptr 0 0 0),J,e7 (dg X),e7 (dg Y),J,J,J,J,J,J,J,J,J,J,J,J,J,J,J,J,J,J,J,J,J,J,J,J,J,J,J,J,J,J,J,J,J,J,J,J],[b1U])) (fun s=>b6Q x y s.1 s.2) (fun s=>s.2) (x.natAbs,y.natAbs) [some 2]
  ⟨rfl,lx,ly⟩ ⟨rfl,rfl,⟨⟨rfl,rfl,rfl,.inl ⟨rfl,V4⟩⟩,trivial⟩,⟨⟨rfl,rfl,rfl⟩,rfl,rfl,trivial⟩⟩ ?_
 rintro ⟨X,Y⟩ hI
 have hI:b6Q x y X Y:=hI
 obtain ⟨g1,g2,g3⟩:=hI
 have l2:((dg Y).map f8).length=(dg Y).length:=by simp
 conv=>whnf
 by_cases hY:0<Y
 ·have hp:(dg Y).length≠0:=by rw [Ne,List.length_eq_zero_iff,Q5];omega
  have dv:=b7i X Y hY (by omega) (by omega)
  repeat' (first|refine zz ?_|refine qp dv ?_|refine zd ?_ ?_<;>intro h<;>try omega|refine zy ?_|fail)<;>conv=>whnf
  all_goals first
   |omega
   |skip
  exact ⟨[some 0],(Y,X % Y),⟨rfl,rfl,⟨⟨rfl,rfl,rfl,.inl ⟨rfl,V4⟩⟩,trivial⟩,⟨⟨rfl,rfl,rfl⟩,rfl,rfl,trivial⟩⟩,⟨by rw [← g1,Nat.gcd_comm Y,←Nat.gcd_rec,Nat.gcd_comm],g3,Nat.le_trans (p4 (Nat.le_of_lt (Nat.mod_lt X hY))) g3⟩,Nat.mod_lt X hY⟩
 ·have hY:Y=0:=by omega
  subst hY
  have hp:(dg 0).length=0:=rfl
  have c2:=a9i (dg X) (by omega)
  have s1:=x8 1 X (by simp) (by omega)
  have ck:=I9 true (bz (1*X))
  repeat' (first|refine zz ?_|refine qp c2 ?_|refine qp s1 ?_|refine qp ck ?_|refine zd ?_ ?_<;>intro h<;>try omega|refine zy ?_|fail)<;>conv=>whnf
  all_goals first
   |omega
   |skip
  refine a62 ?_
  rw [Int.one_mul,show X=Int.gcd x y by rw [Int.gcd,←g1,Nat.gcd_zero_right]]
  rfl
theorem a1b {x y:Int} (h:x % 18446744073709551616=y):I1 .u64 x y:=by
 unfold I1
 simp only [IntKind.wrap,IntKind.bits,IntKind.signed]
 simp
 omega
theorem b0s (a:Int):X0 .and .u64 a 1048575 (a % 1048576):=(aw0 (a:=a) 20 (by decide)).symm
theorem b2z (a:Int):b0X .u64 a 20 (a / 1048576):=by
 show a / 1048576=a.fdiv 1048576
 exact (Int.fdiv_eq_ediv_of_nonneg _ (by decide)).symm
structure OfI (n:Int) (acc:List Int) (u:Nat):Prop where
 eq:acc++dg u=dg n.natAbs
theorem OfI.len {n:Int} {acc:List Int} {u:Nat} (h:OfI n acc u) (h0:-9223372036854775808<=n) (h1:n<=9223372036854775807):acc.length<=4:=by
 have h2:(dg n.natAbs).length<=4:=O3 (by simp only [pw];omega)
 have h3:=congrArg List.length h.eq
 simp at h3
 omega
theorem OfI.step {n:Int} {acc:List Int} {u:Nat} (h:OfI n acc u) (hu:0<u):OfI n (acc++[(u:Int) % 1048576]) (u / 1048576):=by
 refine ⟨?_⟩
 rw [← h.eq,a5H hu]
 simp
theorem OfI.le {n:Int} {acc:List Int} {u:Nat} (h:OfI n acc u):u<=n.natAbs:=by
 have h1:=congrArg val h.eq
 rw [M5,n7,n7] at h1
 have h2:Okd acc:=fun x hx=>t9 n.natAbs x (by rw [← h.eq];simp [hx])
 have h3:=w9 h2
 have h4:=Q6 acc.length
 have h5:=Int.mul_le_mul_of_nonneg_right (a:=1) (b:=pw acc.length) (c:=(u:Int)) (by omega) (by omega)
 omega
theorem a1D {xs:List Int} {x:Int}:(toC (xs.map f8)).take xs.length++toC [[ti x]]=toC ((xs++[x]).map f8):=b6k (f:=f8)
theorem b08 (n:Int) (h0:-9223372036854775808<=n) (h1:n<=9223372036854775807):a9 Tryz.prog 138 [a7 .i64 n] [] (bgS (bz n)) []:=by
 by_cases hn:n<0
 ·(refine ac Tryz.func138 ?_;(conv=>whnf);repeat (refine zy ?_;conv=>whnf))
  repeat' (first|refine zz ?_|refine ⟨_,a1b (y:=n+18446744073709551616) (by omega),?_⟩|refine ⟨_,a1b (y:=(n.natAbs:Int)) (by omega),?_⟩|refine zd ?_ ?_<;>intro h<;>try omega|refine zy ?_|fail)<;>conv=>whnf
  refine o5 d7 (σ:=List Int × Nat) (fun|(acc,u)=>([J,J,S.c (C.ptr 0 0 0),a7 .i64 (-1),a7 .u64 u,a0Y 1 acc,J,J,J,J,J,J,J,J,J,J,J,J,J,J,J,J,J,J,J],[b1U,s8 acc])) (fun s=>OfI n s.1 s.2) (fun s=>s.2) ([],n.natAbs) [some 0,none]
   ⟨rfl⟩ ⟨rfl,rfl,⟨⟨rfl,rfl,rfl,.inl ⟨rfl,V4⟩⟩,⟨rfl,rfl⟩,trivial⟩,⟨⟨rfl,rfl,rfl⟩,rfl,b9 (by omega),⟨rfl,rfl,rfl⟩,trivial⟩⟩ ?_
  rintro ⟨acc,u⟩ hI
  have hI:OfI n acc u:=hI
  have hl:=hI.len h0 h1
  have hu:=hI.le
  conv=>whnf
  repeat' (first|refine zz ?_|refine qp toC ?_|refine qp toC ?_|refine ⟨_,b0s _,?_⟩|refine ⟨by decide,_,b2z _,?_⟩|refine q9 (by simp [toC]) (by simp [toC];omega) ?_|refine ⟨_,a1b (by omega),?_⟩|refine zd ?_ ?_<;>intro h<;>try omega|refine zy ?_|fail)<;>conv=>whnf
  ·refine ⟨[some 0,some 2],(acc++[(u:Int) % 1048576],u / 1048576),⟨rfl,rfl,⟨⟨rfl,rfl,rfl,.inl ⟨rfl,V4⟩⟩,a8 rfl rfl rfl a1D rfl,trivial⟩,⟨⟨rfl,rfl,rfl⟩,rfl,b9 (by simp),l9 rfl (by simp [toC]),trivial⟩⟩,hI.step (by omega),by show u / 1048576<u;omega⟩
  ·have h0u:u=0:=by omega
   subst h0u
   have e:acc=dg n.natAbs:=by have:=hI.eq;rw [W1,List.append_nil] at this;exact this
   have sg:=x8 (-1) n.natAbs (by omega) (by rw [← e];omega)
   rw [← e,show (-1)*(n.natAbs:Int)=n by omega] at sg
   refine .inr ⟨_,_,x7 [1] sg ⟨ai6,a0T (v4 (by simp) rfl (by intro h;cases h) rfl rfl (by simp)),trivial⟩ rfl,?_⟩
   conv=>whnf
   exact k8 ⟨rfl,rfl,trivial⟩
 ·(refine ac Tryz.func138 ?_;(conv=>whnf);repeat (refine zy ?_;conv=>whnf))
  repeat' (first|refine zz ?_|refine ⟨_,a1b (y:=(n.natAbs:Int)) (by omega),?_⟩|refine zd ?_ ?_<;>intro h<;>try omega|refine zy ?_|fail)<;>conv=>whnf
  refine o5 d7 (σ:=List Int × Nat) (fun|(acc,u)=>([J,J,S.c (C.ptr 0 0 0),a7 .i64 1,a7 .u64 u,a0Y 1 acc,J,J,J,J,J,J,J,J,J,J,J,J,J,J,J,J,J,J,J],[b1U,s8 acc])) (fun s=>OfI n s.1 s.2) (fun s=>s.2) ([],n.natAbs) [some 0,none]
   ⟨rfl⟩ ⟨rfl,rfl,⟨⟨rfl,rfl,rfl,.inl ⟨rfl,V4⟩⟩,⟨rfl,rfl⟩,trivial⟩,⟨⟨rfl,rfl,rfl⟩,rfl,b9 (by omega),⟨rfl,rfl,rfl⟩,trivial⟩⟩ ?_
  rintro ⟨acc,u⟩ hI
  have hI:OfI n acc u:=hI
  have hl:=hI.len h0 h1
  have hu:=hI.le
  conv=>whnf
  repeat' (first|refine zz ?_|refine qp toC ?_|refine qp toC ?_|refine ⟨_,b0s _,?_⟩|refine ⟨by decide,_,b2z _,?_⟩|refine q9 (by simp [toC]) (by simp [toC];omega) ?_|refine ⟨_,a1b (by omega),?_⟩|refine zd ?_ ?_<;>intro h<;>try omega|refine zy ?_|fail)<;>conv=>whnf
  ·refine ⟨[some 0,some 2],(acc++[(u:Int) % 1048576],u / 1048576),⟨rfl,rfl,⟨⟨rfl,rfl,rfl,.inl ⟨rfl,V4⟩⟩,a8 rfl rfl rfl a1D rfl,trivial⟩,⟨⟨rfl,rfl,rfl⟩,rfl,b9 (by simp),l9 rfl (by simp [toC]),trivial⟩⟩,hI.step (by omega),by show u / 1048576<u;omega⟩
  ·have h0u:u=0:=by omega
   subst h0u
   have e:acc=dg n.natAbs:=by have:=hI.eq;rw [W1,List.append_nil] at this;exact this
   have sg:=x8 (1) n.natAbs (by omega) (by rw [← e];omega)
   rw [← e,show (1)*(n.natAbs:Int)=n by omega] at sg
   refine .inr ⟨_,_,x7 [1] sg ⟨ai6,a0T (v4 (by simp) rfl (by intro h;cases h) rfl rfl (by simp)),trivial⟩ rfl,?_⟩
   conv=>whnf
   exact k8 ⟨rfl,rfl,trivial⟩
theorem aA5 (i:Nat):pw i=((2 ^ (20*i):Nat):Int):=by
 unfold pw;rw [show (1048576:Int)=((2 ^ 20:Nat):Int) by decide,←Int.natCast_pow,←Nat.pow_mul]
theorem ba0 {d:Int} {i:Nat} {b:Int} (hi:i<=3) (h:0<=d) (h2:d*pw i<18446744073709551616) (hb:b=20*i):I1 .u64 (d*2 ^ min b.toNat (IntKind.bits .u64)) (d*pw i):=by
 have e:min b.toNat (IntKind.bits .u64)=20*i:=by show min b.toNat 64=_;omega
 have hp:=Q6 i
 have h3:0<=d*pw i:=Int.mul_nonneg h (by omega)
 rw [e,show (2:Int) ^ (20*i)=pw i by rw [aA5];simp]
 exact aK1 h3 h2
theorem oru {u d:Int} {i:Nat} (hu:0<=u) (hu2:u<pw i) (h:0<=d) (h2:u+d*pw i<18446744073709551616):X0 .or .u64 u (d*pw i) (u+d*pw i):=by
 obtain ⟨U,rfl⟩:=Int.eq_ofNat_of_zero_le hu
 obtain ⟨D,rfl⟩:=Int.eq_ofNat_of_zero_le h
 have hp:=Q6 i
 have e2:(U:Int)+D*pw i=((U+2 ^ (20*i)*D:Nat):Int):=by rw [aA5];simp [Int.mul_comm]
 have e3:(D:Int)*pw i=((2 ^ (20*i)*D:Nat):Int):=by rw [aA5];simp [Int.mul_comm]
 rw [e2] at h2
 have hU:U<2 ^ (20*i):=by rw [aA5] at hu2;omega
 have k1:(BitVec.ofInt (IntKind.bits .u64) (U:Int) ||| BitVec.ofInt (IntKind.bits .u64) ((2 ^ (20*i)*D:Nat):Int)).toNat=U+2 ^ (20*i)*D:=by
  show (BitVec.ofInt 64 _ ||| BitVec.ofInt 64 _).toNat=_
  rw [BitVec.toNat_or,BitVec.toNat_ofInt,BitVec.toNat_ofInt]
  rw [Int.emod_eq_of_lt (by omega) (by omega),Int.emod_eq_of_lt (by omega) (by omega),Int.toNat_natCast,Int.toNat_natCast,Nat.or_comm,←Nat.two_pow_add_eq_or_of_lt hU,Nat.add_comm]
 rw [e2,e3]
 unfold X0
 simp only
 rw [k1]
 exact (a9O (by omega) h2).symm
structure aV1 (n:Nat) (k:Nat) (u:Int):Prop where
 eq:u=val ((dg n).take k)
 le:k<=(dg n).length
 lt:k=4->u<9*1152921504606846976
theorem aV1.rng {n k:Nat} {u:Int} (h:aV1 n k u):0<=u∧u<pw k:=by
 have h1:=w9 ((t9 n).take k)
 have h2:=W8 ((t9 n).take k)
 rw [List.length_take,Nat.min_eq_left h.le,←h.eq] at h2
 rw [← h.eq] at h1
 exact ⟨h1,h2⟩
theorem aV1.step {n k:Nat} {u:Int} (h:aV1 n k u) (hk:k<(dg n).length) (hd:k=3->dat (dg n) k<=8):aV1 n (k+1) (u+dat (dg n) k*pw k):=by
 have hr:=h.rng
 refine ⟨by rw [t5,h.eq,Int.mul_comm],hk,fun h4=>?_⟩
 have:k=3:=by omega
 subst this
 have:=hd rfl
 simp only [pw] at hr ⊢
 omega
theorem b7s {k:Nat} (h:k<=3):pw k<=1152921504606846976:=by
 have:=a16 h
 simp only [pw] at this ⊢
 omega
theorem b7Z {k:Nat} (h:k<=2):pw k<=1099511627776:=by
 have:=a16 h
 simp only [pw] at this ⊢
 omega
theorem ax4 {a a':Int} {b b':Bool} {k:IntKind} {H1:Hp} (h:a=a') (h2:b=b'):Fin 0 (.tup [a7 k a,f9 b]) H1 (.tup [a7 k a',f9 b']) []:=by
 subst h h2;exact k8 ⟨rfl,rfl,trivial⟩
theorem aX8 {x:Int} (h1:9223372036854775808<=x) (h2:x<18446744073709551616):I1 .i64 x (x - 18446744073709551616):=by
 unfold I1
 simp only [IntKind.wrap,IntKind.bits,IntKind.signed]
 simp
 omega
abbrev a8c (x:Int):Prop:=-9223372036854775808<=x∧x<=9223372036854775807
theorem b7G (x:Int) (lx:bl x<=200000):a9 Tryz.prog 210 [bgS (bz x)] [] (.tup [a7 .i64 (if a8c x then x else 0),f9 (decide (a8c x))]) []:=by
 have r1:=a4r x (by omega)
 have l1:((bz x).dl.map f8).length=(dg x.natAbs).length:=by simp [bz]
 have l2:(bz x).dl=dg x.natAbs:=rfl
 have hlast:∀k:Nat,k<(dg x.natAbs).length->pw k<=x.natAbs:=fun k hk=>Int.le_trans (a16 (by omega)) (az3 (by
  rcases Nat.eq_zero_or_pos x.natAbs with h|h
  ·rw [h,W1] at hk;simp at hk
  ·exact h))
 (refine ac Tryz.func210 ?_;(conv=>whnf);repeat (refine zy ?_;conv=>whnf))
 repeat' (first|refine zz ?_|refine qp r1 ?_|refine zd ?_ ?_<;>intro h<;>try omega|refine zy ?_|fail)<;>conv=>whnf
 ·have hl:4<(dg x.natAbs).length:=by omega
  have:=hlast 4 hl
  simp only [pw] at this
  have hn:¬a8c x:=by unfold a8c;omega
  exact ax4 (by rw [if_neg hn]) (by simp [hn])
 ·refine o5 d7 (σ:=Nat × Int) (fun|(k,u)=>([J,S.c (C.ptr 0 0 0),J,J,a7 .u64 u,J,J,J,J,J,J,J,J,J,J,J,J,e7 (dg x.natAbs),a7 .i64 (dg x.natAbs).length,a7 .i64 k,J,J,J,J,J,J,J,J,J,J,J,J,J,J,J,J,J,J,J,J,J,J,J,J,J,J,J,J,J,J,J,J,J,J,J,J,J,J,J],[bgB (bz x)])) (fun s=>aV1 x.natAbs s.1 s.2) (fun s=>(dg x.natAbs).length - s.1) (0,0) [some 0]
   ⟨by simp [val],by omega,by omega⟩ ⟨rfl,rfl,⟨⟨rfl,rfl,rfl,.inl ⟨rfl,a4a _⟩⟩,trivial⟩,⟨⟨rfl,rfl,rfl⟩,rfl,i7 rfl,b9 (by omega),rfl,trivial⟩⟩ ?_
  rintro ⟨k,u⟩ hI
  have hI:aV1 x.natAbs k u:=hI
  have hr:=hI.rng
  have hle:=hI.le
  have hd:=(t9 x.natAbs).dat k
  have hp:=Q6 k
  have hp3:k<=3->pw k<=1152921504606846976:=b7s
  have hdm:0<=dat (dg x.natAbs) k*pw k:=Int.mul_nonneg hd.1 (by omega)
  have l3:((dg x.natAbs).map f8).length=(dg x.natAbs).length:=by simp
  have hp2:k<=2->pw k<=1099511627776:=b7Z
  have hA:k<=3->(k=3->dat (dg x.natAbs) k<=8)->u+dat (dg x.natAbs) k*pw k<18446744073709551616:=fun h3 h8=>by
   by_cases hk:k=3
   ·have:=Int.mul_le_mul_of_nonneg_right (c:=pw k) (h8 hk) (by omega)
    have:=hp3 h3
    omega
   ·have:=Int.mul_le_mul_of_nonneg_right (c:=pw k) (show dat (dg x.natAbs) k<=1048575 by omega) (by omega)
    have:=hp2 (by omega)
    omega
  have hE:k=(dg x.natAbs).length->u=x.natAbs:=fun h=>by
   have:=hI.eq
   rw [h,lg4 (Nat.le_refl _),n7] at this
   exact this
  have hs:=E9 x
  have hsg:(bz x).sg=x.sign:=rfl
  conv=>whnf
  repeat' (first|refine zz ?_|refine d8 (w5 (by omega)) ?_|refine ⟨_,aK1 (by omega) (by omega),?_⟩|refine ⟨by omega,_,ba0 (i:=k) (by omega) (by omega) (by omega) (by omega),?_⟩|refine ⟨_,oru (by omega) (by omega) (by omega) (by omega),?_⟩|refine ⟨_,a1b (y:=18446744073709551616 - u) (by omega),?_⟩|refine ⟨_,aX8 (by omega) (by omega),?_⟩|refine zd ?_ ?_<;>intro h<;>try omega|refine zy ?_|fail)<;>conv=>whnf
  ·have hk:k=3:=by omega
   have h8:9<=dat (dg x.natAbs) k:=by omega
   have h1:=t5 (dg x.natAbs) k
   have h4:val (dg x.natAbs)=val ((dg x.natAbs).take (k+1)):=by rw [lg4 (by omega)]
   rw [n7] at h4
   have h5:=w9 ((t9 x.natAbs).take k)
   have h6:=Int.mul_le_mul_of_nonneg_left (a:=9) (b:=dat (dg x.natAbs) k) (c:=pw k) h8 (by omega)
   have h7:pw k=1152921504606846976:=by rw [hk];rfl
   have hn:¬a8c x:=by unfold a8c;omega
   exact ax4 (by rw [if_neg hn]) (by simp [hn])
  ·have hst:=hI.step (by omega) (by omega)
   exact ⟨[some 0],(k+1,u+dat (dg x.natAbs) k*pw k),⟨rfl,rfl,⟨⟨rfl,rfl,rfl,.inl ⟨rfl,a4a _⟩⟩,trivial⟩,⟨⟨rfl,rfl,rfl⟩,rfl,rfl,rfl,b9 (by omega),trivial⟩⟩,hst,by show (dg x.natAbs).length - (k+1)<(dg x.natAbs).length - k;omega⟩
  ·have hst:=hI.step (by omega) (by omega)
   exact ⟨[some 0],(k+1,u+dat (dg x.natAbs) k*pw k),⟨rfl,rfl,⟨⟨rfl,rfl,rfl,.inl ⟨rfl,a4a _⟩⟩,trivial⟩,⟨⟨rfl,rfl,rfl⟩,rfl,rfl,rfl,b9 (by omega),trivial⟩⟩,hst,by show (dg x.natAbs).length - (k+1)<(dg x.natAbs).length - k;omega⟩
  all_goals
   have hu:=hE (by omega)
   first
    |(have hn:a8c x:=by unfold a8c;omega
      exact ax4 (by rw [if_pos hn];omega) (by simp [hn]))
    |(have hn:¬a8c x:=by unfold a8c;omega
      exact ax4 (by rw [if_neg hn]) (by simp [hn]))
abbrev frC (f:Fr):List C:=[.t (ti f.p.sg),.t (L5 f.p.dl),.t (ti f.q.sg),.t (L5 f.q.dl)]
abbrev frS (f:Fr):S:=.agg (frC f)
theorem b9J (x:Int) (lx:bl x<=200000):a9 Tryz.prog 137 [bgS (bz x)] [] (f9 (x == 1)) []:=by
 have i:=b7G x lx
 by_cases h:a8c x
 ·rw [if_pos h,show decide (a8c x)=true by simp [h]] at i
  (refine ac Tryz.func137 ?_;(conv=>whnf);repeat (refine zy ?_;conv=>whnf))
  repeat' (first|refine zz ?_|refine qp i ?_|refine zd ?_ ?_<;>intro h<;>try omega|refine zy ?_|fail)<;>conv=>whnf
  all_goals (refine b7 ?_;simp;omega)
 ·rw [if_neg h,show decide (a8c x)=false by simp [h]] at i
  have hx:x≠1:=by rintro rfl;exact h (by decide)
  (refine ac Tryz.func137 ?_;(conv=>whnf);repeat (refine zy ?_;conv=>whnf))
  repeat' (first|refine zz ?_|refine qp i ?_|refine zd ?_ ?_<;>intro h<;>try omega|refine zy ?_|fail)<;>conv=>whnf
  all_goals (refine b7 ?_;simp;omega)
theorem aM4 (f:Fr) (lp:f.p.dl.length<=200000) (lq:f.q.dl.length<=200000):a9 Tryz.prog 65 [frS f] [] (f9 (D7 f)) []:=by
 obtain ⟨p,q⟩:=f
 simp only at lp lq
 have r1:=a2I p (by omega)
 have r2:=a2I q (by omega)
 cases hp:J2 p with
 |false=>
  rw [hp] at r1
  (refine ac Tryz.func65 ?_;(conv=>whnf);repeat (refine zy ?_;conv=>whnf))
  repeat' (first|refine zz ?_|refine qp r1 ?_|refine qp r2 ?_|refine zd ?_ ?_<;>intro h<;>try omega|refine zy ?_|fail)<;>conv=>whnf
  all_goals (first|(exfalso;simp_all;done)|(refine b7 ?_;unfold D7;simp [hp]))
 |true=>
  rw [hp] at r1
  cases hq:J2 q with
  |false=>
   rw [hq] at r2
   (refine ac Tryz.func65 ?_;(conv=>whnf);repeat (refine zy ?_;conv=>whnf))
   repeat' (first|refine zz ?_|refine qp r1 ?_|refine qp r2 ?_|refine zd ?_ ?_<;>intro h<;>try omega|refine zy ?_|fail)<;>conv=>whnf
   all_goals (first|(exfalso;simp_all;done)|(refine b7 ?_;unfold D7;simp [hq]))
  |true=>
   rw [hq] at r2
   obtain ⟨x,rfl⟩:=a9A hp
   obtain ⟨y,rfl⟩:=a9A hq
   have g:=aY4 x y lp lq
   have o:=b9J (Int.gcd x y) (a9I x y lp lq)
   (refine ac Tryz.func65 ?_;(conv=>whnf);repeat (refine zy ?_;conv=>whnf))
   repeat' (first|refine zz ?_|refine qp r1 ?_|refine qp r2 ?_|refine qp g ?_|refine qp o ?_|refine zd ?_ ?_<;>intro h<;>try omega|refine zy ?_|fail)<;>conv=>whnf
   all_goals (refine b7 ?_;unfold D7;simp only [a04,a3M,Bool.true_and];symm;simp_all<;>omega)
theorem a19 (x y:Int) (lx:bl x<=200000) (ly:bl y<=200000):a9 Tryz.prog 140 [bgS (bz x),bgS (bz y)] [] (bgS (bz (x*y))) []:=by
 have mu:=b7R x y lx ly
 (refine ac Tryz.func140 ?_;(conv=>whnf);repeat (refine zy ?_;conv=>whnf))
 repeat' (first|refine zz ?_|refine qp mu ?_|refine zd ?_ ?_<;>intro h<;>try omega|refine zy ?_|fail)<;>conv=>whnf
 exact k8 ⟨rfl,rfl,trivial⟩
theorem W9 {f f':Fr} {e:Int} {H1:Hp} (h:f=f'):Fin 0 (.tup [frS f,a7 .i64 e]) H1 (.tup [frS f',a7 .i64 e]) []:=by
 subst h;exact k8 ⟨⟨rfl,rfl,rfl,rfl,trivial⟩,rfl,trivial⟩
theorem at7 (p q:Int) (hq:q≠0) (lp:bl p<=200000) (lq:bl q<=200000):a9 Tryz.prog 143 [bgS (bz p),bgS (bz q)] [] (.tup [frS (fz (Rat.divInt p q)),a7 .i64 0]) []:=by
 have r1:=a4r p (by omega)
 have r2:=a4r q (by omega)
 have hs:=E9 q
 have hsg:(bz q).sg=q.sign:=rfl
 by_cases h:q<0
 ·have n1:=a7Y p (by omega)
  have n2:=a7Y q (by omega)
  have lg:=a9I (-p) (-q) (by rw [a1N];exact lp) (by rw [a1N];exact lq)
  have hg:0<(Int.gcd (-p) (-q):Int):=by have:=Int.gcd_pos_of_ne_zero_right (-p) (b:=-q) (by omega);omega
  have g:=aY4 (-p) (-q) (by rw [a1N];exact lp) (by rw [a1N];exact lq)
  have d1:=at3 (-p) _ hg (by rw [a1N];exact lp) lg
  have d2:=at3 (-q) _ hg (by rw [a1N];exact lq) lg
  have e:=a7q (p:=-p) (q:=-q) (by omega) rfl
  rw [Rat.neg_divInt_neg] at e
  (refine ac Tryz.func143 ?_;(conv=>whnf);repeat (refine zy ?_;conv=>whnf))
  repeat' (first|refine zz ?_|refine qp r1 ?_|refine qp r2 ?_|refine qp n1 ?_|refine qp n2 ?_|refine qp g ?_|refine qp d1 ?_|refine qp d2 ?_|refine zd ?_ ?_<;>intro h<;>try omega|refine zy ?_|fail)<;>conv=>whnf
  all_goals first
   |(exfalso;simp_all;done)
   |omega
   |exact W9 e.symm
 ·have lg:=a9I p q lp lq
  have hg:0<(Int.gcd p q:Int):=by have:=Int.gcd_pos_of_ne_zero_right p (b:=q) (by omega);omega
  have g:=aY4 p q lp lq
  have d1:=at3 p _ hg lp lg
  have d2:=at3 q _ hg lq lg
  have e:=a7q (p:=p) (q:=q) (by omega) rfl
  (refine ac Tryz.func143 ?_;(conv=>whnf);repeat (refine zy ?_;conv=>whnf))
  repeat' (first|refine zz ?_|refine qp r1 ?_|refine qp r2 ?_|refine qp g ?_|refine qp d1 ?_|refine qp d2 ?_|refine zd ?_ ?_<;>intro h<;>try omega|refine zy ?_|fail)<;>conv=>whnf
  all_goals first
   |omega
   |(exfalso;simp_all;done)
   |exact W9 e.symm
theorem J4 (x:Rat) (lx:rl x<=200000):a9 Tryz.prog 65 [frS (fz x)] [] (f9 true) []:=by
 have h:=aM4 (fz x) (Nat.le_trans (G4 x) lx) (Nat.le_trans (H5 x) lx)
 rw [a9w] at h
 exact h
theorem a39 (x y:Rat) (lx:rl x<=60000) (ly:rl y<=60000):a9 Tryz.prog 73 [frS (fz x),frS (fz y)] [] (.tup [frS (fz (x+y)),a7 .i64 0]) []:=by
 have r1:=J4 x (by omega)
 have r2:=J4 y (by omega)
 have x1:=G4 x
 have x2:=H5 x
 have y1:=G4 y
 have y2:=H5 y
 have l1:=G5 x.num y.den
 have l2:=G5 y.num x.den
 have l3:=G5 x.den y.den
 have l4:=a7r (x.num*y.den) (y.num*x.den)
 have t1:=a19 x.num y.den (by omega) (by omega)
 have t2:=a19 y.num x.den (by omega) (by omega)
 have t3:=a19 x.den y.den (by omega) (by omega)
 have a:=b8u (x.num*y.den) (y.num*x.den) (by omega) (by omega)
 have n:=at7 (x.num*y.den+y.num*x.den) (x.den*y.den) (a93 x y) (by omega) (by omega)
 rw [← a9d] at n
 (refine ac Tryz.func73 ?_;(conv=>whnf);repeat (refine zy ?_;conv=>whnf))
 repeat' (first|refine zz ?_|refine qp r1 ?_|refine qp r2 ?_|refine qp t1 ?_|refine qp t2 ?_|refine qp t3 ?_|refine qp a ?_|refine qp n ?_|refine qp 13 ?_|refine bl0 [13] ?_|refine zd ?_ ?_<;>intro h<;>try omega|refine zy ?_|fail)<;>conv=>whnf
 all_goals first
  |(exfalso;simp_all;done)
  |exact W9 rfl
theorem b41 (x y:Rat) (lx:rl x<=60000) (ly:rl y<=60000):a9 Tryz.prog 72 [frS (fz x),frS (fz y)] [] (.tup [frS (fz (x - y)),a7 .i64 0]) []:=by
 have r1:=J4 x (by omega)
 have r2:=J4 y (by omega)
 have y1:=G4 y
 have n:=a7Y y.num (by omega)
 have a:=a39 x (-y) lx (by rw [S7];exact ly)
 rw [← Rat.sub_eq_add_neg] at a
 have e:fz (-y)=⟨bz (-y.num),bz y.den⟩:=rfl
 rw [e] at a
 (refine ac Tryz.func72 ?_;(conv=>whnf);repeat (refine zy ?_;conv=>whnf))
 repeat' (first|refine zz ?_|refine qp r1 ?_|refine qp r2 ?_|refine qp n ?_|refine qp a ?_|refine zd ?_ ?_<;>intro h<;>try omega|refine zy ?_|fail)<;>conv=>whnf
 all_goals first
  |(exfalso;simp_all;done)
  |exact W9 rfl
theorem ad8 (x y:Rat) (lx:rl x<=60000) (ly:rl y<=60000):a9 Tryz.prog 179 [frS (fz x),frS (fz y)] [] (.tup [frS (fz (x*y)),a7 .i64 0]) []:=by
 have r1:=J4 x (by omega)
 have r2:=J4 y (by omega)
 have x1:=G4 x
 have x2:=H5 x
 have y1:=G4 y
 have y2:=H5 y
 have l1:=G5 x.num y.num
 have l3:=G5 x.den y.den
 have t1:=a19 x.num y.num (by omega) (by omega)
 have t3:=a19 x.den y.den (by omega) (by omega)
 have n:=at7 (x.num*y.num) (x.den*y.den) (a93 x y) (by omega) (by omega)
 rw [← av0] at n
 (refine ac Tryz.func179 ?_;(conv=>whnf);repeat (refine zy ?_;conv=>whnf))
 repeat' (first|refine zz ?_|refine qp r1 ?_|refine qp r2 ?_|refine qp t1 ?_|refine qp t3 ?_|refine qp n ?_|refine zd ?_ ?_<;>intro h<;>try omega|refine zy ?_|fail)<;>conv=>whnf
 all_goals first
  |(exfalso;simp_all;done)
  |exact W9 rfl
theorem aJ1 (x y:Rat):O4 (x.num*y.den) (y.num*x.den)=a2K x y:=by
 unfold O4 a2K
 simp only [← Rat.lt_iff]
theorem ag1 (x y:Rat) (lx:rl x<=60000) (ly:rl y<=60000):a9 Tryz.prog 68 [frS (fz x),frS (fz y)] [] (a7 .i64 (a2K x y)) []:=by
 have r1:=J4 x (by omega)
 have r2:=J4 y (by omega)
 have x1:=G4 x
 have x2:=H5 x
 have y1:=G4 y
 have y2:=H5 y
 have l1:=G5 x.num y.den
 have l2:=G5 y.num x.den
 have t1:=a19 x.num y.den (by omega) (by omega)
 have t2:=a19 y.num x.den (by omega) (by omega)
 have c:=aW6 (x.num*y.den) (y.num*x.den) (by omega) (by omega)
 rw [aJ1] at c
 (refine ac Tryz.func68 ?_;(conv=>whnf);repeat (refine zy ?_;conv=>whnf))
 repeat' (first|refine zz ?_|refine qp r1 ?_|refine qp r2 ?_|refine qp t1 ?_|refine qp t2 ?_|refine qp c ?_|refine zd ?_ ?_<;>intro h<;>try omega|refine zy ?_|fail)<;>conv=>whnf
 all_goals first
  |(exfalso;simp_all;done)
  |exact j8 rfl
theorem a35 (x:Rat) (lx:rl x<=60000):a9 Tryz.prog 69 [frS (fz x)] [] (a7 .i64 (sgR x)) []:=by
 have r1:=J4 x (by omega)
 (refine ac Tryz.func69 ?_;(conv=>whnf);repeat (refine zy ?_;conv=>whnf))
 repeat' (first|refine zz ?_|refine qp r1 ?_|refine zd ?_ ?_<;>intro h<;>try omega|refine zy ?_|fail)<;>conv=>whnf
 all_goals first
  |(exfalso;simp_all;done)
  |exact j8 (a6l x)
theorem b3f (p q:Int) (hq:q≠0) (p0:-9223372036854775808<=p) (p1:p<=9223372036854775807) (q0:-9223372036854775808<=q) (q1:q<=9223372036854775807):
 a9 Tryz.prog 222 [a7 .i64 p,a7 .i64 q] [] (.tup [frS (fz (Rat.divInt p q)),a7 .i64 0]) []:=by
 have l1:=U2 p0 p1
 have l2:=U2 q0 q1
 have o1:=b08 p p0 p1
 have o2:=b08 q q0 q1
 have n:=at7 p q hq (by omega) (by omega)
 (refine ac Tryz.func222 ?_;(conv=>whnf);repeat (refine zy ?_;conv=>whnf))
 repeat' (first|refine zz ?_|refine qp o1 ?_|refine qp o2 ?_|refine qp n ?_|refine zd ?_ ?_<;>intro h<;>try omega|refine zy ?_|fail)<;>conv=>whnf
 all_goals exact W9 rfl
theorem b8d (n:Int):fz (n:Rat)=⟨bz n,bz 1⟩:=by unfold fz;rw [Rat.num_intCast,Rat.den_intCast];rfl
theorem N7 (n:Int) (p0:-9223372036854775808<=n) (p1:n<=9223372036854775807):a9 Tryz.prog 66 [a7 .i64 n] [] (frS (fz (n:Rat))) []:=by
 have o1:=b08 n p0 p1
 have o2:=b08 1 (by decide) (by decide)
 rw [b8d]
 (refine ac Tryz.func66 ?_;(conv=>whnf);repeat (refine zy ?_;conv=>whnf))
 repeat' (first|refine zz ?_|refine qp o1 ?_|refine qp o2 ?_|refine zd ?_ ?_<;>intro h<;>try omega|refine zy ?_|fail)<;>conv=>whnf
 all_goals exact k8 ⟨rfl,rfl,rfl,rfl,trivial⟩
theorem a9C (x:Int) (lx:bl x<=200000):a9 Tryz.prog 290 [bgS (bz x)] [] (bgS (bz x)) []:=by
 have n1:=a7Y x (by omega)
 have n2:=a7Y (-x) (by rw [a1N];omega)
 rw [Int.neg_neg] at n2
 (refine ac Tryz.func290 ?_;(conv=>whnf);repeat (refine zy ?_;conv=>whnf))
 repeat' (first|refine zz ?_|refine qp n1 ?_|refine qp n2 ?_|refine zd ?_ ?_<;>intro h<;>try omega|refine zy ?_|fail)<;>conv=>whnf
 all_goals exact k8 ⟨rfl,rfl,trivial⟩
theorem a92 {x y:Rat}:a2K x y<0↔x<y:=by unfold a2K;split<;>(try split)<;>simp_all
theorem b38 (x y:Rat):-1<=a2K x y∧a2K x y<=1:=by unfold a2K;split<;>(try split)<;>omega
theorem b85 (x y:Rat) (lx:rl x<=60000) (ly:rl y<=60000):a9 Tryz.prog 193 [frS (fz x),frS (fz y)] [] (.tup [frS (fz (ax6 x y)),a7 .i64 0]) []:=by
 have e:a9 Tryz.prog 252 [frS (fz x),frS (fz y),a7 .i64 1] [] (.tup [frS (fz (ax6 x y)),a7 .i64 0]) []:=by
  have r1:=J4 x (by omega)
  have r2:=J4 y (by omega)
  have x1:=G4 x
  have x2:=H5 x
  have y1:=G4 y
  have y2:=H5 y
  have c:=ag1 x y lx ly
  have hr:=b38 x y
  have s1:=a9C x.num (by omega)
  have s2:=a9C x.den (by omega)
  have s3:=a9C y.num (by omega)
  have s4:=a9C y.den (by omega)
  (refine ac Tryz.func252 ?_;(conv=>whnf);repeat (refine zy ?_;conv=>whnf))
  repeat' (first|refine zz ?_|refine qp r1 ?_|refine qp r2 ?_|refine qp c ?_|refine qp s1 ?_|refine qp s2 ?_|refine qp s3 ?_|refine qp s4 ?_|refine zd ?_ ?_<;>intro h<;>try omega|refine zy ?_|fail)<;>conv=>whnf
  ·have h:a2K x y<0:=by omega
   refine W9 (f:=fz y) ?_
   unfold ax6;rw [if_pos (a92.1 h)]
  ·have h:¬a2K x y<0:=by omega
   refine W9 (f:=fz x) ?_
   unfold ax6;rw [if_neg (fun h'=>h (a92.2 h'))]
 (refine ac Tryz.func193 ?_;(conv=>whnf);repeat (refine zy ?_;conv=>whnf))
 repeat' (first|refine zz ?_|refine qp e ?_|refine zd ?_ ?_<;>intro h<;>try omega|refine zy ?_|fail)<;>conv=>whnf
 all_goals exact W9 rfl
theorem a4K (n m:Int):a9 Tryz.prog 251 [a7 .i64 n,a7 .i64 m] [] (f9 (btw n 0 m)) []:=by
 (refine ac Tryz.func251 ?_;(conv=>whnf);repeat (refine zy ?_;conv=>whnf))
 repeat' (first|refine zz ?_|refine zd ?_ ?_<;>intro h<;>try omega|refine zy ?_|fail)<;>conv=>whnf
 all_goals (refine b7 ?_;unfold btw;simp;omega)
abbrev aN8 (c:K0):S:=.agg (c.row.map .t)
theorem ap3 (n:Int):btw n 0 29=idx n 30:=b0k n 30
theorem aH7 (c:K0):a9 Tryz.prog 288 [aN8 c] [] (f9 (O6 c)) []:=by
 have w1:=a4K c.scale 29
 have w2:=a4K c.grams 1099511627776
 have w3:=a4K c.permille 1000
 have w4:=a4K c.drift 10000000
 rw [ap3] at w1
 unfold O6
 cases h1:idx c.scale 30<;>cases h2:btw c.grams 0 1099511627776<;>cases h3:btw c.permille 0 1000<;>cases h4:btw c.drift 0 10000000<;>rw [h1] at w1<;>rw [h2] at w2<;>rw [h3] at w3<;>rw [h4] at w4<;>
 ·(refine ac Tryz.func288 ?_;(conv=>whnf);repeat (refine zy ?_;conv=>whnf))
  repeat' (first|refine zz ?_|refine qp w1 ?_|refine qp w2 ?_|refine qp w3 ?_|refine qp w4 ?_|refine zd ?_ ?_<;>intro h<;>try omega|refine zy ?_|fail)<;>conv=>whnf
  all_goals (refine b7 ?_;simp;try omega)
theorem aB7 (c:K0) (day:Int):a9 Tryz.prog 248 [aN8 c,a7 .i64 day] [] (f9 (J5 c day)) []:=by
 have w1:=aH7 c
 unfold J5
 cases h1:O6 c<;>rw [h1] at w1<;>
 ·(refine ac Tryz.func248 ?_;(conv=>whnf);repeat (refine zy ?_;conv=>whnf))
  repeat' (first|refine zz ?_|refine qp w1 ?_|refine zd ?_ ?_<;>intro h<;>try omega|refine zy ?_|fail)<;>conv=>whnf
  all_goals (refine b7 ?_;simp [btw];try omega)
theorem aI4 {cs:List K0} {k:Nat} {c:K0} (h:cs[k]? =some c):aB1 cs k=c.since:=by unfold aB1;rw [h];rfl
abbrev aD9 (n:Int):T:=.ptr [ti n]
theorem b0w {a b:Bool} {ρ:List (Option Nat)} {H:Hp} (h:a=b):a4l ρ H (f9 a) (f9 b):=by subst h;exact rfl
def a7C (o:Option Nat):Nat:=o.getD 0
theorem b7N (cs:List K0) (scale day:Int) (hl:cs.length<=1000000):
 a9 Tryz.prog 190 [.c (.t (Z6 cs)),a7 .i64 scale,a7 .i64 day] [] (.tup [a7 .i64 (a7C (B6 cs scale day cs.length)),f9 (B6 cs scale day cs.length).isSome]) []:=by
 have l1:(cs.map K0.row).length=cs.length:=by simp
 (refine ac Tryz.func190 ?_;(conv=>whnf);repeat (refine zy ?_;conv=>whnf))
 repeat' (first|refine zz ?_|refine zd ?_ ?_<;>intro h<;>try omega|refine zy ?_|fail)<;>conv=>whnf
 refine f5 d7 (fun k=>([S.c (C.t (Z6 cs)),a7 .i64 scale,a7 .i64 day,J,J,J,J,J,a7 .i64 (a7C (B6 cs scale day k)),f9 (B6 cs scale day k).isSome,J,J,S.c (C.t (Z6 cs)),a7 .i64 cs.length,a7 .i64 k,J,J,J,J,J,J,J,J,J,J,J,J,J,J,J,J,J,J,J,J,J,J,J,J,J,J,J,J,J,J,J],[])) cs.length (fun _=>True) [] trivial
  ⟨rfl,rfl,trivial,⟨i7 rfl,rfl,rfl,rfl,rfl,i7 rfl,b9 (by simp),rfl,trivial⟩⟩ ?_
 intro k hk _
 by_cases hlt:k<cs.length
 ·obtain ⟨c,hc⟩:∃c,cs[k]? =some c:=⟨_,lg0 hlt⟩
  have cv:=aB7 c day
  have hst:B6 cs scale day (k+1)=if decide (c.scale=scale) && J5 c day && a3G cs (B6 cs scale day k) c then some k else B6 cs scale day k:=by
   conv=>lhs;unfold B6
   rw [hc]
  cases hcv:J5 c day with
  |false=>
   rw [hcv] at cv hst
   simp only [Bool.and_false,Bool.false_and,Bool.false_eq_true,if_false] at hst
   rw [← hst]
   conv=>whnf
   repeat' (first|refine zz ?_|refine qp cv ?_|refine d8 hc ?_|refine zd ?_ ?_<;>intro h<;>try omega|refine zy ?_|fail)<;>conv=>whnf
   all_goals first
    |omega
    |exact ⟨hlt,trivial,[],rfl,rfl,trivial,⟨rfl,rfl,rfl,rfl,rfl,rfl,rfl,rfl,trivial⟩⟩
  |true=>
   rw [hcv] at cv hst
   cases hf:B6 cs scale day k with
   |none=>
    rw [hf] at hst
    conv=>whnf
    repeat' (first|refine zz ?_|refine qp cv ?_|refine d8 hc ?_|refine zd ?_ ?_<;>intro h<;>try omega|refine zy ?_|fail)<;>conv=>whnf
    ·exact ⟨hlt,trivial,[],rfl,rfl,trivial,⟨rfl,rfl,rfl,b9 (by rw [hst];simp [*,a3G,a7C]),b0w (by rw [hst];simp [*,a3G]),rfl,rfl,rfl,trivial⟩⟩
    ·exact ⟨hlt,trivial,[],rfl,rfl,trivial,⟨rfl,rfl,rfl,b9 (by rw [hst];simp [*,a3G,a7C]),b0w (by rw [hst];simp [*,a3G]),rfl,rfl,rfl,trivial⟩⟩
   |some b=>
    rw [hf] at hst
    obtain ⟨hb,cb,hcb,_⟩:=L4 hf
    have hsb:=aI4 hcb
    conv=>whnf
    repeat' (first|refine zz ?_|refine qp cv ?_|refine d8 hc ?_|refine d8 hcb ?_|refine zd ?_ ?_<;>intro h<;>try omega|refine zy ?_|fail)<;>conv=>whnf
    all_goals first
     |exact ⟨hlt,trivial,[],rfl,rfl,trivial,⟨rfl,rfl,rfl,b9 (by rw [hst];simp [*,a3G,a7C]),b0w (by rw [hst];simp [*,a3G]),rfl,rfl,rfl,trivial⟩⟩
     |(exfalso;simp_all;done)
 ·have hke:k=cs.length:=by omega
  subst hke
  conv=>whnf
  repeat' (first|refine zz ?_|refine zd ?_ ?_<;>intro h<;>try omega|refine zy ?_|fail)<;>conv=>whnf
  all_goals first
   |omega
   |exact k8 ⟨rfl,rfl,trivial⟩
theorem ax0 (r:y0) (scale day:Int):a9 Tryz.prog 250 (.agg (r.row.map .t)::[aD9 scale,aD9 day].map fun x=>.c (.t x)) [] (f9 (decide (r.scale=scale) && decide (r.since<=day))) []:=by
 (refine ac Tryz.func250 ?_;(conv=>whnf);repeat (refine zy ?_;conv=>whnf))
 repeat' (first|refine zz ?_|refine zd ?_ ?_<;>intro h<;>try omega|refine zy ?_|fail)<;>conv=>whnf
 all_goals (refine b7 ?_;simp [*];try omega)
abbrev b7t (r:y0):S:=.agg (r.row.map .t)
def F3 {α:Type} (q:α->Bool):List α->Nat->Int
 |[],_=>-1
 |x::r,k=>if q x then k else F3 q r (k+1)
theorem a3r {α:Type} (q:α->Bool):∀(l:List α) (k:Nat),decide (0<=F3 q l k)=l.any q
 |[],k=>by simp [F3]
 |x::r,k=>by
  unfold F3
  rw [List.any_cons]
  cases h:q x with
  |true=>simp
  |false=>simpa using a3r q r (k+1)
theorem aR9 (rs:List y0) (hl:rs.length<=1000000) (g:FuncId) (caps:List T) (q:y0->Bool) (hg:∀r ∈ rs,a9 Tryz.prog g (b7t r::caps.map fun x=>.c (.t x)) [] (f9 (q r)) []):
 a9 Tryz.prog 289 [.c (.t (J6 rs)),.c (.t (.fn (.func g) caps))] [] (a7 .i64 (F3 q rs 0)) []:=by
 have l1:(rs.map y0.row).length=rs.length:=by simp
 (refine ac Tryz.func289 ?_;(conv=>whnf);repeat (refine zy ?_;conv=>whnf))
 repeat' (first|refine zz ?_|refine zd ?_ ?_<;>intro h<;>try omega|refine zy ?_|fail)<;>conv=>whnf
 refine f5 d7 (fun k=>([S.c (C.t (J6 rs)),S.c (C.t (T.fn (.func g) caps)),J,J,J,J,J,a7 .i64 rs.length,a7 .i64 k,J,J,J,J,J,J,J,J,J,J],[])) rs.length (fun k=>F3 q (rs.drop k) k=F3 q rs 0) [] rfl
  ⟨rfl,rfl,trivial,⟨i7 rfl,i7 rfl,b9 (by simp),rfl,trivial⟩⟩ ?_
 intro k hk hI
 by_cases hlt:k<rs.length
 ·obtain ⟨r,hr⟩:∃r,rs[k]? =some r:=⟨_,lg0 hlt⟩
  have hd:rs.drop k=r::rs.drop (k+1):=by
   rw [List.drop_eq_getElem_cons hlt]
   rw [lg0 hlt] at hr
   injection hr with hr
   rw [hr]
  have hgr:=hg r (lg2 hr)
  have ha:(b7t r::caps.map fun x=>S.c (C.t x)).all S.isT=true:=by simp [S.isT,C.isT,y0.row]
  rw [hd] at hI
  have hI:(if q r then (k:Int) else F3 q (rs.drop (k+1)) (k+1))=F3 q rs 0:=hI
  cases hq:q r with
  |true=>
   rw [hq] at hgr hI
   conv=>whnf
   repeat' (first|refine zz ?_|refine .inl ⟨_,_,B7 hgr ha rfl,?_⟩|refine d8 hr ?_|refine zd ?_ ?_<;>intro h<;>try omega|refine zy ?_|fail)<;>conv=>whnf
   all_goals first
    |omega
    |exact j8 hI
  |false=>
   rw [hq] at hgr hI
   conv=>whnf
   repeat' (first|refine zz ?_|refine .inl ⟨_,_,B7 hgr ha rfl,?_⟩|refine d8 hr ?_|refine zd ?_ ?_<;>intro h<;>try omega|refine zy ?_|fail)<;>conv=>whnf
   all_goals first
    |omega
    |exact ⟨hlt,by simpa using hI,[],rfl,rfl,trivial,⟨rfl,rfl,rfl,rfl,trivial⟩⟩
 ·have hke:k=rs.length:=by omega
  subst hke
  rw [List.drop_of_length_le (Nat.le_refl _)] at hI
  conv=>whnf
  repeat' (first|refine zz ?_|refine zd ?_ ?_<;>intro h<;>try omega|refine zy ?_|fail)<;>conv=>whnf
  all_goals first
   |omega
   |exact j8 hI
theorem aj9 (rs:List y0) (hl:rs.length<=1000000) (g:FuncId) (caps:List T) (q:y0->Bool) (hg:∀r ∈ rs,a9 Tryz.prog g (b7t r::caps.map fun x=>.c (.t x)) [] (f9 (q r)) []):
 a9 Tryz.prog 249 [.c (.t (J6 rs)),.c (.t (.fn (.func g) caps))] [] (f9 (rs.any q)) []:=by
 have ix:=aR9 rs hl g caps q hg
 (refine ac Tryz.func249 ?_;(conv=>whnf);repeat (refine zy ?_;conv=>whnf))
 repeat' (first|refine zz ?_|refine qp ix ?_|refine zd ?_ ?_<;>intro h<;>try omega|refine zy ?_|fail)<;>conv=>whnf
 all_goals (refine b7 ?_;rw [← a3r q rs 0];simp;omega)
theorem aU1 (rs:List y0) (hl:rs.length<=1000000) (scale day:Int):a9 Tryz.prog 191 [.c (.t (J6 rs)),a7 .i64 scale,a7 .i64 day] [] (f9 (R5 rs scale day)) []:=by
 have ct:=aj9 rs hl 250 [aD9 scale,aD9 day] _ (fun r _=>ax0 r scale day)
 (refine ac Tryz.func191 ?_;(conv=>whnf);repeat ((first|refine b0x ?_|refine zy ?_);conv=>whnf))
 repeat' (first|refine zz ?_|refine qp ct ?_|refine zd ?_ ?_<;>intro h<;>try omega|refine zy ?_|fail)<;>conv=>whnf
 all_goals (refine b7 ?_;symm;assumption)
theorem a31 {c:K0} {day:Int} (h:J5 c day=true):0<=c.since∧c.since<=day∧day<=c.till∧c.till<=100000∧0<=c.grams∧c.grams<=1099511627776∧0<=c.permille∧c.permille<=1000∧0<=c.drift∧c.drift<=10000000:=by
 unfold J5 O6 btw at h
 simp only [Bool.and_eq_true,decide_eq_true_eq] at h
 omega
abbrev U0:Fr:=⟨⟨0,[]⟩,⟨0,[]⟩⟩
theorem b3j {f f':Fr} {b b':Bool} {H1:Hp} (h:f=f') (h2:b=b'):Fin 0 (.tup [frS f,f9 b]) H1 (.tup [frS f',f9 b']) []:=by
 subst h h2;exact k8 ⟨⟨rfl,rfl,rfl,rfl,trivial⟩,rfl,trivial⟩
structure b3o (c:K0) (reading day:Int):Prop where
 p0:0<=c.permille*reading
 p1:c.permille*reading<=1000*1099511627776
 d0:0<=c.drift*(day - c.since)
 d1:c.drift*(day - c.since)<=10000000*100000
theorem b3o.of {c:K0} {reading day:Int} (h:J5 c day=true) (hr:btw reading 0 1099511627776=true):b3o c reading day:=by
 have hc:=a31 h
 rw [V5] at hr
 exact ⟨Int.mul_nonneg (by omega) (by omega),Int.mul_le_mul (by omega) (by omega) (by omega) (by omega),Int.mul_nonneg (by omega) (by omega),Int.mul_le_mul (by omega) (by omega) (by omega) (by omega)⟩
theorem aW8 {c:K0} {reading day:Int} (h:J5 c day=true) (hr:btw reading 0 1099511627776=true):rl (a2p c reading day)<=9:=by
 have i:=b3o.of h hr
 have hc:=a31 h
 obtain ⟨p0,p1,d0,d1⟩:=i
 unfold a2p
 have h1:=a4e (Rat.divInt (c.permille*reading) 1000) ((c.grams+c.drift*(day - c.since):Int):Rat)
 have h2:rl (Rat.divInt (c.permille*reading) 1000)<=4:=Nat.le_trans (Q1 (by decide)) (by have:=U2 (x:=c.permille*reading) (by omega) (by omega);have:=U2 (x:=1000) (by decide) (by decide);omega)
 have h3:rl ((c.grams+c.drift*(day - c.since):Int):Rat)<=4:=by rw [a2k];have:=U2 (x:=c.grams+c.drift*(day - c.since)) (by omega) (by omega);omega
 omega
theorem b6M (c:K0) (reading day:Int) (h:J5 c day=true):a9 Tryz.prog 192 [aN8 c,a7 .i64 reading,a7 .i64 day] []
 (.tup [frS (if btw reading 0 1099511627776 then fz (a2p c reading day) else U0),f9 (btw reading 0 1099511627776)]) []:=by
 have cv:=aB7 c day
 have wi:=a4K reading 1099511627776
 rw [h] at cv
 have hc:=a31 h
 cases hr:btw reading 0 1099511627776 with
 |false=>
  rw [hr] at wi
  (refine ac Tryz.func192 ?_;(conv=>whnf);repeat (refine zy ?_;conv=>whnf))
  repeat' (first|refine zz ?_|refine qp cv ?_|refine qp wi ?_|refine zd ?_ ?_<;>intro h<;>try omega|refine zy ?_|fail)<;>conv=>whnf
  all_goals first
   |(exfalso;simp_all;done)
   |exact k8 ⟨⟨rfl,rfl,rfl,rfl,trivial⟩,rfl,trivial⟩
 |true=>
  rw [hr] at wi
  obtain ⟨p0,p1,d0,d1⟩:=b3o.of h hr
  rw [V5] at hr
  have fo:=b3f (c.permille*reading) 1000 (by decide) (by omega) (by omega) (by decide) (by decide)
  have fi:=N7 (c.grams+c.drift*(day - c.since)) (by omega) (by omega)
  have h2:rl (Rat.divInt (c.permille*reading) 1000)<=4:=Nat.le_trans (Q1 (by decide)) (by have:=U2 (x:=c.permille*reading) (by omega) (by omega);have:=U2 (x:=1000) (by decide) (by decide);omega)
  have h3:rl ((c.grams+c.drift*(day - c.since):Int):Rat)<=4:=by rw [a2k];have:=U2 (x:=c.grams+c.drift*(day - c.since)) (by omega) (by omega);omega
  have ad:=a39 (Rat.divInt (c.permille*reading) 1000) ((c.grams+c.drift*(day - c.since):Int):Rat) (by omega) (by omega)
  (refine ac Tryz.func192 ?_;(conv=>whnf);repeat (refine zy ?_;conv=>whnf))
  repeat' (first|refine zz ?_|refine qp cv ?_|refine qp wi ?_|refine qp fo ?_|refine qp fi ?_|refine qp ad ?_|refine qp 7 ?_|refine qp 15 ?_|refine bl0 [7] ?_|refine bl0 [15] ?_|refine zd ?_ ?_<;>intro h<;>try omega|refine zy ?_|fail)<;>conv=>whnf
  all_goals first
   |(exfalso;simp_all;done)
   |exact b3j rfl rfl
abbrev ivL (o:Option (Rat × Rat)):List S:=match o with
 |some (lo,hi)=>[frS (fz lo),frS (fz hi),f9 true]
 |none=>[frS U0,frS U0,f9 false]
theorem b5u {x y:Rat} {n:Nat} (h1:rl x<=n) (h2:rl y<=n):rl (ax6 x y)<=n:=by unfold ax6;split<;>assumption
theorem aJ4 {cs:List K0} {rs:List y0} {scale reading day:Int} {lo hi:Rat} (h:C3 cs rs scale reading day=some (lo,hi)):rl lo<=20∧rl hi<=20:=by
 unfold C3 at h
 split at h
 ·cases h
 ·rename_i i hi
  obtain ⟨hb,c,hc,_,hcv⟩:=L4 hi
  have e:a0X cs i=c:=by unfold a0X;rw [hc];rfl
  rw [e] at h
  split at h
  ·cases h
  ·split at h
   ·rename_i hr
    injection h with h
    injection h with h1 h2
    have l1:=aW8 hcv hr
    rw [V5] at hr
    have l2:rl (reading:Rat)<=4:=by rw [a2k];have:=U2 (x:=reading) (by omega) (by omega);omega
    have l3:=a4e (reading:Rat) (a2p c reading day)
    have l4:=aQ7 (reading:Rat) (a2p c reading day)
    refine ⟨?_,by rw [← h2];omega⟩
    rw [← h1]
    exact b5u (by omega) (by rw [b0t];omega)
   ·cases h
theorem aQ5 (cs:List K0) (rs:List y0) (hl:cs.length<=1000000) (hl2:rs.length<=1000000) (scale reading day:Int):
 a9 Tryz.prog 116 [.c (.t (Z6 cs)),.c (.t (J6 rs)),a7 .i64 scale,a7 .i64 reading,a7 .i64 day] [] (.tup (ivL (C3 cs rs scale reading day))) []:=by
 have f:=b7N cs scale day hl
 have r:=aU1 rs hl2 scale day
 unfold C3
 cases hf:B6 cs scale day cs.length with
 |none=>
  rw [hf] at f
  (refine ac Tryz.func116 ?_;(conv=>whnf);repeat (refine zy ?_;conv=>whnf))
  repeat' (first|refine zz ?_|refine qp f ?_|refine qp r ?_|refine qp 1 ?_|refine qp 6 ?_|refine bl0 [1] ?_|refine bl0 [6] ?_|refine zd ?_ ?_<;>intro h<;>try omega|refine zy ?_|fail)<;>conv=>whnf
  all_goals first
   |(exfalso;simp_all;done)
   |exact k8 ⟨⟨rfl,rfl,rfl,rfl,trivial⟩,⟨rfl,rfl,rfl,rfl,trivial⟩,rfl,trivial⟩
 |some i=>
  rw [hf] at f
  obtain ⟨hb,c,hc,_,hcv⟩:=L4 hf
  have e:a0X cs i=c:=by unfold a0X;rw [hc];rfl
  have er:=b6M c reading day hcv
  simp only [e]
  cases hrec:R5 rs scale day with
  |true=>
   rw [hrec] at r
   (refine ac Tryz.func116 ?_;(conv=>whnf);repeat (refine zy ?_;conv=>whnf))
   repeat' (first|refine zz ?_|refine qp f ?_|refine qp r ?_|refine qp 1 ?_|refine qp 6 ?_|refine bl0 [1] ?_|refine bl0 [6] ?_|refine zd ?_ ?_<;>intro h<;>try omega|refine zy ?_|fail)<;>conv=>whnf
   all_goals first
    |(exfalso;simp_all;done)
    |exact k8 ⟨⟨rfl,rfl,rfl,rfl,trivial⟩,⟨rfl,rfl,rfl,rfl,trivial⟩,rfl,trivial⟩
  |false=>
   rw [hrec] at r
   cases hr:btw reading 0 1099511627776 with
   |false=>
    rw [hr] at er
    (refine ac Tryz.func116 ?_;(conv=>whnf);repeat (refine zy ?_;conv=>whnf))
    repeat' (first|refine zz ?_|refine qp f ?_|refine qp r ?_|refine qp er ?_|refine qp 1 ?_|refine qp 9 ?_|refine d8 hc ?_|refine bl0 [1] ?_|refine bl0 [9] ?_|refine zd ?_ ?_<;>intro h<;>try omega|refine zy ?_|fail)<;>conv=>whnf
    all_goals first
     |exact k8 ⟨⟨rfl,rfl,rfl,rfl,trivial⟩,⟨rfl,rfl,rfl,rfl,trivial⟩,rfl,trivial⟩
     |(exfalso;simp_all;done)
   |true=>
    have l1:=aW8 hcv hr
    rw [hr] at er
    rw [V5] at hr
    have l2:rl (reading:Rat)<=4:=by rw [a2k];have:=U2 (x:=reading) (by omega) (by omega);omega
    have fi:=N7 reading (by omega) (by omega)
    have f0:=N7 0 (by omega) (by omega)
    have sb:=b41 (reading:Rat) (a2p c reading day) (by omega) (by omega)
    have ad:=a39 (reading:Rat) (a2p c reading day) (by omega) (by omega)
    have l4:=aQ7 (reading:Rat) (a2p c reading day)
    have mx:=b85 ((reading:Rat) - a2p c reading day) ((0:Int):Rat) (by omega) (by rw [b0t];omega)
    (refine ac Tryz.func116 ?_;(conv=>whnf);repeat (refine zy ?_;conv=>whnf))
    repeat' (first|refine zz ?_|refine qp f ?_|refine qp r ?_|refine qp er ?_|refine qp fi ?_|refine qp f0 ?_|refine qp sb ?_|refine qp ad ?_|refine qp mx ?_|refine qp 1 ?_|refine qp 9 ?_|refine qp 5 ?_|refine d8 hc ?_|refine bl0 [1] ?_|refine bl0 [9] ?_|refine bl0 [5] ?_|refine zd ?_ ?_<;>intro h<;>try omega|refine zy ?_|fail)<;>conv=>whnf
    all_goals first
     |exact k8 ⟨⟨rfl,rfl,rfl,rfl,trivial⟩,⟨rfl,rfl,rfl,rfl,trivial⟩,rfl,trivial⟩
     |(exfalso;simp_all;done)
def s7 (f:Fr):List T:=[ti f.p.sg,L5 f.p.dl,ti f.q.sg,L5 f.q.dl]
abbrev F2 (l:List Fr):T:=.sl 4 .any (l.map s7)
abbrev n6 (l:List Fr):S:=.c (.t (F2 l))
def a1R (l:List Fr):List T:=[F2 l]
abbrev b9p (h:List (List Fr)):T:=.sl 1 .any (h.map a1R)
abbrev aF9 (h:List (List Fr)):S:=.c (.t (b9p h))
theorem a1y (l:List Rat) {k:Nat} {x:Rat} (h:l[k]? =some x):(l.map fz)[k]? =some (fz x):=by rw [List.getElem?_map,h];rfl
theorem aK2 {f f':Fr} {H1:Hp} (h:f=f'):Fin 0 (frS f) H1 (frS f') []:=by subst h;exact k8 ⟨rfl,rfl,rfl,rfl,trivial⟩
abbrev frB (f:Fr):Blk:={ mode:=.live,elem:=83,size:=4,rows:=[frC f],box:=true }
theorem N3 (f:Fr):K2 [frC f]:=by
 intro r hr c hc
 simp at hr
 subst hr
 simp [frC] at hc
 rcases hc with rfl|rfl|rfl|rfl<;>rfl
theorem b12 {x:Rat}:sgR x<0↔x<0:=by unfold sgR;split<;>(try split)<;>simp_all
theorem b6U {x y:Rat}:a2K x y<=0↔x<=y:=by
 unfold a2K
 split
 ·simp;grind
 ·split
  ·simp;grind
  ·simp;grind
theorem ab0 {x y:Rat}:a2K x y > 0↔y<x:=by
 have:=b6U (x:=x) (y:=y)
 constructor
 ·intro h;have h2:¬x<=y:=fun h'=>by have:=this.2 h';omega
  grind
 ·intro h;have h2:¬a2K x y<=0:=fun h'=>by have:=this.1 h';grind
  omega
def J9.row (f:J9):List T:=[ti f.mv,ti f.kind,ti f.grams]
def J3.row (c:J3):List T:=[ti c.mv,ti c.kind]
abbrev a9k (l:List J9):T:=.sl 3 .any (l.map J9.row)
abbrev a26 (l:List J3):T:=.sl 2 .any (l.map J3.row)
def trT (t:e8):List T:=[ti t.ev.mats,ti t.ev.hhs,ti t.ev.scs,a17 t.ev.places,a1L t.ev.moves,Z6 t.ev.certs,J6 t.ev.recalls,a0p t.ev.purities,a9k t.finds,a26 t.cleans]
def trC (t:e8):List C:=[.t (ti t.ev.mats),.t (ti t.ev.hhs),.t (ti t.ev.scs),.t (a17 t.ev.places),.t (a1L t.ev.moves),.t (Z6 t.ev.certs),.t (J6 t.ev.recalls),.t (a0p t.ev.purities),.t (a9k t.finds),.t (a26 t.cleans)]
abbrev trS (t:e8):S:=.agg (trC t)
structure e8.Sized (t:e8):Prop where
 ev:t.ev.Sized
 f:t.finds.length<=1000000
 c:t.cleans.length<=1000000
theorem a6I {x:Rat}:sgR x=0↔x=0:=by unfold sgR;split<;>(try split)<;>simp_all<;>grind
theorem b4b (e:Ev) (mv kind:Int):a9 Tryz.prog 59 [evS e,a7 .i64 mv,a7 .i64 kind] [] (a7 .i64 (a13 e mv kind)) []:=by
 have l2:(e.moves.map x4.row).length=e.moves.length:=by simp
 (refine ac Tryz.func59 ?_;(conv=>whnf);repeat ((first|refine b0x ?_|refine zy ?_);conv=>whnf))
 repeat' (first|refine zz ?_|refine zd ?_ ?_<;>intro h<;>try omega|refine zy ?_|fail)<;>conv=>whnf
 all_goals (refine j8 ?_;unfold a13;(repeat' split)<;>first|rfl|omega)
theorem a6r (t:e8) (hs:t.Sized):a9 Tryz.prog 16 [trS t] [] (a7 .i64 (v8 t)) []:=by
 have l1:=hs.f
 have l2:=hs.c
 have ck:=b6f t.ev hs.ev
 have m1:(t.finds.map J9.row).length=t.finds.length:=by simp
 have m2:(t.cleans.map J3.row).length=t.cleans.length:=by simp
 by_cases h0:C6 t.ev≠0
 ·have e1:v8 t=C6 t.ev:=by unfold v8;rw [if_pos h0]
  rw [e1]
  (refine ac Tryz.func16 ?_;(conv=>whnf);repeat ((first|refine b0x ?_|refine zy ?_);conv=>whnf))
  repeat' (first|refine zz ?_|refine qp ck ?_|refine zd ?_ ?_<;>intro h<;>try omega|refine zy ?_|fail)<;>conv=>whnf
  all_goals first
   |omega
   |exact j8 rfl
 have h0:C6 t.ev=0:=by omega
 rw [h0] at ck
 by_cases h1:20<t.finds.length∨50<t.cleans.length
 ·have e1:v8 t=6:=by unfold v8;rw [if_neg (by omega),if_pos h1]
  rw [e1]
  (refine ac Tryz.func16 ?_;(conv=>whnf);repeat ((first|refine b0x ?_|refine zy ?_);conv=>whnf))
  repeat' (first|refine zz ?_|refine qp ck ?_|refine zd ?_ ?_<;>intro h<;>try omega|refine zy ?_|fail)<;>conv=>whnf
  all_goals first
   |omega
   |exact j8 rfl
 have e1:v8 t=if I4 t.ev t.finds≠0 then I4 t.ev t.finds else H3 t.ev t.cleans:=by unfold v8;rw [if_neg (by omega),if_neg h1]
 rw [e1]
 (refine ac Tryz.func16 ?_;(conv=>whnf);repeat ((first|refine b0x ?_|refine zy ?_);conv=>whnf))
 repeat' (first|refine zz ?_|refine qp ck ?_|refine zd ?_ ?_<;>intro h<;>try omega|refine zy ?_|fail)<;>conv=>whnf
 all_goals try omega
 refine f5 d7 (fun k=>([J,S.c (C.t (T.ptr (trT t))),J,J,J,J,J,J,J,J,J,J,J,J,J,J,J,J,J,J,J,J,J,J,J,J,J,S.c (C.t (a9k t.finds)),a7 .i64 t.finds.length,a7 .i64 k,J,J,J,J,J,J,J,J,J,J,J,J,J,J,J,J,J,J,J,J,J,J,J,J,J,J,J,J,J,J,J,J,J,J,J,J,J,J,J,J],[])) t.finds.length (fun k=>I4 t.ev t.finds=I4 t.ev (t.finds.drop k)) [] rfl
  ⟨rfl,rfl,trivial,⟨rfl,rfl,b9 (by simp),rfl,trivial⟩⟩ ?_
 intro k hk hI
 by_cases hlt:k<t.finds.length
 ·obtain ⟨f,hf⟩:∃f,t.finds[k]? =some f:=⟨_,lg0 hlt⟩
  have mk:=b4b t.ev f.mv f.kind
  rw [a0R hf,I4] at hI
  by_cases hm:a13 t.ev f.mv f.kind≠0
  ·rw [if_pos hm] at hI
   rw [hI,if_pos hm]
   conv=>whnf
   repeat' (first|refine zz ?_|refine qp mk ?_|refine d8 hf ?_|refine zd ?_ ?_<;>intro h<;>try omega|refine zy ?_|fail)<;>conv=>whnf
   all_goals first
    |omega
    |exact j8 rfl
  ·rw [if_neg hm] at hI
   by_cases hg:f.grams<1∨1099511627776<f.grams
   ·rw [if_pos hg] at hI
    rw [hI]
    conv=>whnf
    repeat' (first|refine zz ?_|refine qp mk ?_|refine d8 hf ?_|refine zd ?_ ?_<;>intro h<;>try omega|refine zy ?_|fail)<;>conv=>whnf
    all_goals first
     |omega
     |exact j8 rfl
   ·rw [if_neg hg] at hI
    conv=>whnf
    repeat' (first|refine zz ?_|refine qp mk ?_|refine d8 hf ?_|refine zd ?_ ?_<;>intro h<;>try omega|refine zy ?_|fail)<;>conv=>whnf
    all_goals first
     |omega
     |exact ⟨hlt,hI,[],rfl,rfl,trivial,⟨rfl,rfl,rfl,rfl,trivial⟩⟩
 ·rw [List.drop_of_length_le (by omega)] at hI
  have hI:I4 t.ev t.finds=0:=hI
  rw [hI,if_neg (by omega)]
  conv=>whnf
  repeat' (first|refine zz ?_|refine zd ?_ ?_<;>intro h<;>try omega|refine zy ?_|fail)<;>conv=>whnf
  all_goals try omega
  refine f5 d7 (fun k=>([J,S.c (C.t (T.ptr (trT t))),J,J,J,J,J,J,J,J,J,J,J,J,J,J,J,J,J,J,J,J,J,J,J,J,J,J,J,J,J,J,J,J,J,J,J,J,J,J,J,J,J,J,J,J,J,J,J,J,J,J,J,S.c (C.t (a26 t.cleans)),a7 .i64 t.cleans.length,a7 .i64 k,J,J,J,J,J,J,J,J,J,J,J,J,J,J],[])) t.cleans.length (fun k=>H3 t.ev t.cleans=H3 t.ev (t.cleans.drop k)) [] rfl
   ⟨rfl,rfl,trivial,⟨rfl,rfl,b9 (by simp),rfl,trivial⟩⟩ ?_
  intro j hj hJ
  by_cases hjt:j<t.cleans.length
  ·obtain ⟨c,hc⟩:∃c,t.cleans[j]? =some c:=⟨_,lg0 hjt⟩
   have mk:=b4b t.ev c.mv c.kind
   rw [a0R hc,H3] at hJ
   by_cases hm:a13 t.ev c.mv c.kind≠0
   ·rw [if_pos hm] at hJ
    rw [hJ]
    conv=>whnf
    repeat' (first|refine zz ?_|refine qp mk ?_|refine d8 hc ?_|refine zd ?_ ?_<;>intro h<;>try omega|refine zy ?_|fail)<;>conv=>whnf
    all_goals first
     |omega
     |exact j8 rfl
   ·rw [if_neg hm] at hJ
    conv=>whnf
    repeat' (first|refine zz ?_|refine qp mk ?_|refine d8 hc ?_|refine zd ?_ ?_<;>intro h<;>try omega|refine zy ?_|fail)<;>conv=>whnf
    all_goals first
     |omega
     |exact ⟨hjt,hJ,[],rfl,rfl,trivial,⟨rfl,rfl,rfl,rfl,trivial⟩⟩
  ·rw [List.drop_of_length_le (by omega)] at hJ
   have hJ:H3 t.ev t.cleans=0:=hJ
   rw [hJ]
   conv=>whnf
   repeat' (first|refine zz ?_|refine zd ?_ ?_<;>intro h<;>try omega|refine zy ?_|fail)<;>conv=>whnf
   all_goals first
    |omega
    |exact j8 rfl
theorem b9M (e:Ev) {i:Nat} {x:x4} (h0:C6 e=0) (hx:e.moves[i]? =some x):a9 Tryz.prog 70 [evS e,a7 .i64 i] [] (f9 (decide (o4 e x.src=0))) []:=by
 have hm:=E1 h0 (lg2 hx)
 have ms:=S5 hm
 obtain ⟨s,hsn⟩:∃s:Nat,x.src=s:=⟨x.src.toNat,by omega⟩
 obtain ⟨pl,hpl⟩:∃pl,e.places[s]? =some pl:=⟨_,lg0 (by omega)⟩
 have hkd:o4 e x.src=pl.kind:=by rw [hsn];exact aq9 hpl
 rw [hkd]
 (refine ac Tryz.func70 ?_;(conv=>whnf);repeat ((first|refine b0x ?_|refine zy ?_);conv=>whnf))
 repeat' (first|refine zz ?_|refine d8 hx ?_|refine I2 hsn hpl ?_|refine zd ?_ ?_<;>intro h<;>try omega|refine zy ?_|fail)<;>conv=>whnf
 all_goals (refine b7 ?_;simp [*])
def j9 (x:Int × Rat):List T:=ti x.1::s7 (fz x.2)
abbrev a7X (l:List (Int × Rat)):T:=.sl 5 .any (l.map j9)
def z6 (w:D9):List T:=a7X w.terms::ti w.kind::s7 (fz w.value)
def ba6 (w:D9):List C:=.t (a7X w.terms)::.t (ti w.kind)::frC (fz w.value)
abbrev aN9 (w:D9):S:=.agg (ba6 w)
abbrev M3 (l:List D9):T:=.sl 6 .any (l.map z6)
abbrev a0U (s:g8):S:=.agg [.t (ti s.n),.t (M3 s.rows)]
abbrev zR:Rat:=((0:Int):Rat)
theorem Z7 {e:Ev} (h:C6 e=0):1<=e.mats∧e.mats<=6∧e.places.length<=100∧e.moves.length<=200:=by
 obtain ⟨h1,h2,_⟩:=aa0 h
 unfold a1F at h1
 simp only [Bool.or_eq_false_iff,decide_eq_false_iff_not] at h1
 omega
abbrev s6 (l:List (Int × Rat)):S:=.c (.t (a7X l))
def a2t (l:List (Int × Rat)):Nat->Int
 |0=>-1
 |k+1=>((l[k]?).map (·.1)).getD 0
theorem S1 {l:List (Int × Rat)} {k:Nat} {t:Int × Rat} (h:l[k]? =some t):a2t l (k+1)=t.1:=by simp [a2t,h]
theorem P3 (l:List (Int × Rat)) (n:Int) (hl:l.length<=1000000) (hB:∀t ∈ l,rl t.2<=200):a9 Tryz.prog 161 [s6 l,a7 .i64 n] [] (f9 (decide (0<=n) && g9 (-1) n l)) []:=by
 have m1:(l.map j9).length=l.length:=by simp
 by_cases h0:n<0
 ·rw [decide_eq_false (by omega),Bool.false_and]
  (refine ac Tryz.func161 ?_;(conv=>whnf);repeat ((first|refine b0x ?_|refine zy ?_);conv=>whnf))
  repeat' (first|refine zz ?_|refine zd ?_ ?_<;>intro h<;>try omega|refine zy ?_|fail)<;>conv=>whnf
  all_goals first
   |omega
   |exact b7 rfl
 rw [decide_eq_true (by omega),Bool.true_and]
 (refine ac Tryz.func161 ?_;(conv=>whnf);repeat ((first|refine b0x ?_|refine zy ?_);conv=>whnf))
 repeat' (first|refine zz ?_|refine zd ?_ ?_<;>intro h<;>try omega|refine zy ?_|fail)<;>conv=>whnf
 all_goals try omega
 refine f5 d7 (fun k=>([J,a7 .i64 n,J,J,J,a7 .i64 (a2t l k),J,J,J,J,s6 l,a7 .i64 l.length,a7 .i64 k,J,J,J,J,J,J,J,J,J,J,J,J,J,J,J,J,J,J,J,J,J,J],[])) l.length (fun k=>g9 (-1) n l=g9 (a2t l k) n (l.drop k)) [] rfl
  ⟨rfl,rfl,trivial,⟨rfl,rfl,rfl,b9 (by simp),rfl,trivial⟩⟩ ?_
 intro k hk hI
 by_cases hlt:k<l.length
 ·obtain ⟨t,ht⟩:∃t,l[k]? =some t:=⟨_,lg0 hlt⟩
  obtain ⟨v,c⟩:=t
  have bc:=hB _ (lg2 ht)
  simp only at bc
  have sg:=a35 c (by omega)
  have sz:=a6I (x:=c)
  rw [a0R ht,g9] at hI
  simp only at hI
  by_cases hok:a2t l k<v∧v<n∧c≠0
  ·rw [decide_eq_true hok.1,decide_eq_true hok.2.1,decide_eq_true hok.2.2] at hI
   simp only [Bool.true_and] at hI
   have hne:sgR c≠0:=fun h=>hok.2.2 (sz.1 h)
   obtain ⟨q1,q2,_⟩:=hok
   conv=>whnf
   repeat' (first|refine zz ?_|refine qp sg ?_|refine d8 ht ?_|refine zd ?_ ?_<;>intro h<;>try omega|refine zy ?_|fail)<;>conv=>whnf
   all_goals first
    |omega
    |exact ⟨hlt,by rw [S1 ht];exact hI,[],rfl,rfl,trivial,⟨rfl,b9 (by rw [S1 ht]),rfl,rfl,rfl,trivial⟩⟩
  ·have hF:g9 (-1) n l=false:=by
    rw [hI]
    rw [← Bool.not_eq_true]
    simp only [Bool.and_eq_true,decide_eq_true_eq]
    exact fun h=>hok ⟨h.1.1.1,h.1.1.2,h.1.2⟩
   rw [hF]
   have hor:v<=a2t l k∨n<=v∨sgR c=0:=by
    by_cases q1:a2t l k<v
    ·by_cases q2:v<n
     ·refine .inr (.inr (sz.2 ?_))
      by_cases q3:c=0
      ·exact q3
      ·exact absurd ⟨q1,q2,q3⟩ hok
     ·exact .inr (.inl (by omega))
    ·exact .inl (by omega)
   clear hI hok
   conv=>whnf
   repeat' (first|refine zz ?_|refine qp sg ?_|refine d8 ht ?_|refine zd ?_ ?_<;>intro h<;>try omega|refine zy ?_|fail)<;>conv=>whnf
   all_goals first
    |omega
    |exact b7 rfl
 ·rw [List.drop_of_length_le (by omega)] at hI
  have hI:g9 (-1) n l=true:=hI
  rw [hI]
  conv=>whnf
  repeat' (first|refine zz ?_|refine zd ?_ ?_<;>intro h<;>try omega|refine zy ?_|fail)<;>conv=>whnf
  all_goals first
   |omega
   |exact b7 rfl
structure ab1 (s:g8):Prop where
 n0:s.rows.length<=1000000
 t:∀w ∈ s.rows,w.terms.length<=100∧(∀ t ∈ w.terms,rl t.2<=200)∧rl w.value<=200
theorem a6B (s:g8) (hb:ab1 s):a9 Tryz.prog 108 [a0U s] [] (f9 (j0 s)) []:=by
 have m1:(s.rows.map z6).length=s.rows.length:=by simp
 have l1:=hb.n0
 by_cases h0:¬(0<=s.n∧s.n<=1500∧s.rows.length<=6000)
 ·have e1:j0 s=false:=by
   unfold j0
   rw [← Bool.not_eq_true]
   simp only [Bool.and_eq_true,decide_eq_true_eq]
   exact fun h=>h0 ⟨h.1.1.1,h.1.1.2,h.1.2⟩
  rw [e1]
  (refine ac Tryz.func108 ?_;(conv=>whnf);repeat ((first|refine b0x ?_|refine zy ?_);conv=>whnf))
  repeat' (first|refine zz ?_|refine zd ?_ ?_<;>intro h<;>try omega|refine zy ?_|fail)<;>conv=>whnf
  all_goals first
   |omega
   |exact b7 rfl
 obtain ⟨c1,c2,c3⟩:=Decidable.not_not.1 h0
 have e1:j0 s=s.rows.all (w7 s.n):=by
  unfold j0
  rw [decide_eq_true c1,decide_eq_true c2,decide_eq_true c3];rfl
 rw [e1]
 clear h0
 (refine ac Tryz.func108 ?_;(conv=>whnf);repeat ((first|refine b0x ?_|refine zy ?_);conv=>whnf))
 repeat' (first|refine zz ?_|refine zd ?_ ?_<;>intro h<;>try omega|refine zy ?_|fail)<;>conv=>whnf
 all_goals try omega
 refine f5 d7 (fun k=>([J,S.c (C.t (T.ptr [ti s.n,M3 s.rows])),J,J,J,J,J,J,J,J,J,J,J,J,J,J,J,J,J,J,S.c (C.t (M3 s.rows)),a7 .i64 s.rows.length,a7 .i64 k,J,J,J,J,J,J,J,J,J,J,J,J,J,J,J,J,J,J,J,J,J,J,J,J,J,J],[])) s.rows.length (fun k=>(s.rows.take k).all (w7 s.n)=true) [] rfl
  ⟨rfl,rfl,trivial,⟨rfl,rfl,b9 (by simp),rfl,trivial⟩⟩ ?_
 intro k hk hI
 by_cases hlt:k<s.rows.length
 ·obtain ⟨w,hw⟩:∃w,s.rows[k]? =some w:=⟨_,lg0 hlt⟩
  obtain ⟨b1,b2,b3⟩:=hb.t w (lg2 hw)
  have rt:=P3 w.terms s.n (by omega) b2
  rw [decide_eq_true c1,Bool.true_and] at rt
  have rv:=J4 w.value (by omega)
  cases hrt:g9 (-1) s.n w.terms with
  |false=>
   rw [hrt] at rt
   have hF:w7 s.n w=false:=by unfold w7;rw [hrt];rfl
   rw [x9 hw hF]
   conv=>whnf
   repeat' (first|refine zz ?_|refine qp rt ?_|refine qp rv ?_|refine d8 hw ?_|refine zd ?_ ?_<;>intro h<;>try omega|refine zy ?_|fail)<;>conv=>whnf
   all_goals first
    |omega
    |(exfalso;simp_all;done)
    |exact b7 rfl
  |true=>
   rw [hrt] at rt
   by_cases hk3:0<=w.kind∧w.kind<3
   ·have hT:w7 s.n w=true:=by unfold w7;rw [hrt,decide_eq_true hk3.1,decide_eq_true hk3.2];rfl
    conv=>whnf
    repeat' (first|refine zz ?_|refine qp rt ?_|refine qp rv ?_|refine d8 hw ?_|refine zd ?_ ?_<;>intro h<;>try omega|refine zy ?_|fail)<;>conv=>whnf
    all_goals first
     |omega
     |(exfalso;simp_all;done)
     |exact ⟨hlt,by rw [t6 hw,hI,hT];rfl,[],rfl,rfl,trivial,⟨rfl,rfl,rfl,rfl,trivial⟩⟩
   ·have hF:w7 s.n w=false:=by
     unfold w7
     rw [← Bool.not_eq_true]
     simp only [Bool.and_eq_true,decide_eq_true_eq]
     exact fun h=>hk3 ⟨h.1.2,h.2⟩
    rw [x9 hw hF]
    conv=>whnf
    repeat' (first|refine zz ?_|refine qp rt ?_|refine qp rv ?_|refine d8 hw ?_|refine zd ?_ ?_<;>intro h<;>try omega|refine zy ?_|fail)<;>conv=>whnf
    all_goals first
     |omega
     |(exfalso;simp_all;done)
     |exact b7 rfl
 ·rw [lg4 (by omega)] at hI
  rw [hI]
  conv=>whnf
  repeat' (first|refine zz ?_|refine zd ?_ ?_<;>intro h<;>try omega|refine zy ?_|fail)<;>conv=>whnf
  all_goals first
   |omega
   |exact b7 rfl
theorem b21 (rs:List Fr) (hl:rs.length<=1000000) (g:FuncId) (caps:List T) (q:Fr->Bool) (hg:∀r ∈ rs,a9 Tryz.prog g (frS r::caps.map fun x=>.c (.t x)) [] (f9 (q r)) []):
 a9 Tryz.prog 243 [.c (.t (F2 rs)),.c (.t (.fn (.func g) caps))] [] (a7 .i64 (F3 q rs 0)) []:=by
 have l1:(rs.map s7).length=rs.length:=by simp
 (refine ac Tryz.func243 ?_;(conv=>whnf);repeat (refine zy ?_;conv=>whnf))
 repeat' (first|refine zz ?_|refine zd ?_ ?_<;>intro h<;>try omega|refine zy ?_|fail)<;>conv=>whnf
 refine f5 d7 (fun k=>([S.c (C.t (F2 rs)),S.c (C.t (T.fn (.func g) caps)),J,J,J,J,J,a7 .i64 rs.length,a7 .i64 k,J,J,J,J,J,J,J,J,J,J],[])) rs.length (fun k=>F3 q (rs.drop k) k=F3 q rs 0) [] rfl
  ⟨rfl,rfl,trivial,⟨i7 rfl,i7 rfl,b9 (by simp),rfl,trivial⟩⟩ ?_
 intro k hk hI
 by_cases hlt:k<rs.length
 ·obtain ⟨r,hr⟩:∃r,rs[k]? =some r:=⟨_,lg0 hlt⟩
  have hd:rs.drop k=r::rs.drop (k+1):=by
   rw [List.drop_eq_getElem_cons hlt]
   rw [lg0 hlt] at hr
   injection hr with hr
   rw [hr]
  have hgr:=hg r (lg2 hr)
  have ha:(frS r::caps.map fun x=>S.c (C.t x)).all S.isT=true:=by simp [S.isT,C.isT,s7]
  rw [hd] at hI
  have hI:(if q r then (k:Int) else F3 q (rs.drop (k+1)) (k+1))=F3 q rs 0:=hI
  cases hq:q r with
  |true=>
   rw [hq] at hgr hI
   conv=>whnf
   repeat' (first|refine zz ?_|refine .inl ⟨_,_,B7 hgr ha rfl,?_⟩|refine d8 hr ?_|refine zd ?_ ?_<;>intro h<;>try omega|refine zy ?_|fail)<;>conv=>whnf
   all_goals first
    |omega
    |exact j8 hI
  |false=>
   rw [hq] at hgr hI
   conv=>whnf
   repeat' (first|refine zz ?_|refine .inl ⟨_,_,B7 hgr ha rfl,?_⟩|refine d8 hr ?_|refine zd ?_ ?_<;>intro h<;>try omega|refine zy ?_|fail)<;>conv=>whnf
   all_goals first
    |omega
    |exact ⟨hlt,by simpa using hI,[],rfl,rfl,trivial,⟨rfl,rfl,rfl,rfl,trivial⟩⟩
 ·have hke:k=rs.length:=by omega
  subst hke
  rw [List.drop_of_length_le (Nat.le_refl _)] at hI
  conv=>whnf
  repeat' (first|refine zz ?_|refine zd ?_ ?_<;>intro h<;>try omega|refine zy ?_|fail)<;>conv=>whnf
  all_goals first
   |omega
   |exact j8 hI
theorem at6 (rs:List Fr) (hl:rs.length<=1000000) (g:FuncId) (caps:List T) (q:Fr->Bool) (hg:∀r ∈ rs,a9 Tryz.prog g (frS r::caps.map fun x=>.c (.t x)) [] (f9 (q r)) []):
 a9 Tryz.prog 177 [.c (.t (F2 rs)),.c (.t (.fn (.func g) caps))] [] (f9 (rs.any q)) []:=by
 have ix:=b21 rs hl g caps q hg
 (refine ac Tryz.func177 ?_;(conv=>whnf);repeat (refine zy ?_;conv=>whnf))
 repeat' (first|refine zz ?_|refine qp ix ?_|refine zd ?_ ?_<;>intro h<;>try omega|refine zy ?_|fail)<;>conv=>whnf
 all_goals (refine b7 ?_;rw [← a3r q rs 0];simp;omega)
theorem b56 (f:Fr) (lp:f.p.dl.length<=200000) (lq:f.q.dl.length<=200000):a9 Tryz.prog 178 (frS f::[].map fun x=>.c (.t x)) [] (f9 (!D7 f)) []:=by
 have r:=aM4 f lp lq
 (refine ac Tryz.func178 ?_;(conv=>whnf);repeat ((first|refine b0x ?_|refine zy ?_);conv=>whnf))
 repeat' (first|refine zz ?_|refine qp r ?_|refine zd ?_ ?_<;>intro h<;>try omega|refine zy ?_|fail)<;>conv=>whnf
 all_goals (refine b7 ?_;simp [*])
theorem au3 (z:List Fr) (hl:z.length<=1000000) (hd:∀f ∈ z,f.p.dl.length<=200000∧f.q.dl.length<=200000):a9 Tryz.prog 109 [n6 z] [] (f9 (z.all D7)) []:=by
 have ct:=at6 z hl 178 [] _ (fun f hf=>b56 f (hd f hf).1 (hd f hf).2)
 have e:(z.any fun f=>!D7 f)=!(z.all D7):=by rw [List.not_all_eq_any_not]
 rw [e] at ct
 cases hz:z.all D7<;>rw [hz] at ct<;>
 ·(refine ac Tryz.func109 ?_;(conv=>whnf);repeat ((first|refine b0x ?_|refine zy ?_);conv=>whnf))
  repeat' (first|refine zz ?_|refine qp ct ?_|refine zd ?_ ?_<;>intro h<;>try omega|refine zy ?_|fail)<;>conv=>whnf
  all_goals exact b7 rfl
theorem a7p {n:Int}:∀{l:List (Int × Rat)} {last:Int},g9 last n l=true->∀t ∈ l,last<t.1∧t.1<n
 |[],_,_,t,ht=>by cases ht
 |u::r,last,h,t,ht=>by
  unfold g9 at h
  simp only [Bool.and_eq_true,decide_eq_true_eq] at h
  rcases List.mem_cons.1 ht with rfl|ht
  ·exact ⟨h.1.1.1,h.1.1.2⟩
  ·have:=a7p h.2 t ht
   omega
def rF (n:Nat) (g:Nat->Rat):List Fr:=(List.range n).map fun j=>fz (g j)
def mF (m n:Nat) (A:Nat->Nat->Rat):List (List Fr):=(List.range m).map fun i=>rF n (A i)
theorem M6 (n:Nat) (g:Nat->Rat):(rF n g).length=n:=by simp [rF]
theorem b8 (m n:Nat) (A:Nat->Nat->Rat):(mF m n A).length=m:=by simp [mF]
theorem H6 {n:Nat} {g:Nat->Rat} {j:Nat} (h:j<n):(rF n g)[j]? =some (fz (g j)):=by simp [rF,h]
theorem Q8 {m n:Nat} {A:Nat->Nat->Rat} {i:Nat} (h:i<m):(mF m n A)[i]? =some (rF n (A i)):=by simp [mF,h]
theorem R8 {n:Nat} {g:Nat->Rat} {s:Nat} {v:Rat} (h:s<n):(rF n g).set s (fz v)=rF n (fun j=>if j=s then v else g j):=by
 apply List.ext_getElem?
 intro j
 by_cases hj:j<n
 ·rw [H6 hj,List.getElem?_set,M6]
  by_cases hjm:s=j
  ·subst hjm;simp [h]
  ·rw [if_neg hjm,H6 hj,if_neg (by omega)]
 ·rw [List.getElem?_eq_none (by simp [M6];omega),List.getElem?_eq_none (by simp [M6];omega)]
theorem y5 {n:Nat} {g h:Nat->Rat} (e:∀j,j<n->g j=h j):rF n g=rF n h:=List.map_congr_left fun j hj=>by rw [e j (List.mem_range.1 hj)]
theorem aL0 {m n:Nat} {A B:Nat->Nat->Rat} (e:∀i,i<m->∀j,j<n->A i j=B i j):mF m n A=mF m n B:=List.map_congr_left fun i hi=>y5 (e i (List.mem_range.1 hi))
theorem b3N {m n:Nat} {A:Nat->Nat->Rat} {r:Nat} {g:Nat->Rat} (h:r<m):(mF m n A).set r (rF n g)=mF m n (fun i=>if i=r then g else A i):=by
 apply List.ext_getElem?
 intro j
 by_cases hj:j<m
 ·rw [Q8 hj,List.getElem?_set,b8]
  by_cases hjm:r=j
  ·subst hjm;simp [h]
  ·rw [if_neg hjm,Q8 hj,if_neg (by omega)]
 ·rw [List.getElem?_eq_none (by simp [b8];omega),List.getElem?_eq_none (by simp [b8];omega)]
abbrev flB (l:List Fr):Blk:={ mode:=.live,elem:=83,size:=4,rows:=toC (l.map s7),box:=false }
theorem I3 {row:List Fr} {i n:Nat} {y:Fr} (h:n=i):x5 (flB row) ((toC (row.map s7)).set n (frC y))=flB (row.set i y):=by
 subst h
 unfold x5
 simp [toC,List.map_set,s7]
def S9 (b m n:Nat) (V:Nat->Rat):List (List C):=(List.range m).map fun i=>frC (fz (V i))++[C.own (i+b) 0 n true]
def a11 (m:Nat) (O:Nat->Nat):List (List T):=(List.range m).map fun i=>[ti (O i)]
def a0e (l:List (Nat × Bool)):List (List T):=l.map fun f=>[ti f.1,tb f.2]
theorem C8 (b m n:Nat) (V:Nat->Rat):(S9 b m n V).length=m:=by simp [S9]
theorem y4 (m:Nat) (O:Nat->Nat):(a11 m O).length=m:=by simp [a11]
theorem a2w {b m n:Nat} {V:Nat->Rat} {i:Nat} (h:i<m):(S9 b m n V)[i]? =some (frC (fz (V i))++[C.own (i+b) 0 n true]):=by simp [S9,h]
theorem a6Z {m:Nat} {O:Nat->Nat} {i:Nat} (h:i<m):(a11 m O)[i]? =some [ti (O i)]:=by simp [a11,h]
theorem b2a {b m n:Nat} {V:Nat->Rat} {r:Nat} {v:Rat} (h:r<m):(S9 b m n V).set r (frC (fz v)++[C.own (r+b) 0 n true])=S9 b m n (fun i=>if i=r then v else V i):=by
 apply List.ext_getElem?
 intro j
 by_cases hj:j<m
 ·rw [a2w hj,List.getElem?_set,C8]
  by_cases hjm:r=j
  ·subst hjm;simp [h]
  ·rw [if_neg hjm,a2w hj,if_neg (by omega)]
 ·rw [List.getElem?_eq_none (by simp [C8];omega),List.getElem?_eq_none (by simp [C8];omega)]
theorem b4i {m:Nat} {O:Nat->Nat} {r v:Nat} (h:r<m):(a11 m O).set r [ti v]=a11 m (fun i=>if i=r then v else O i):=by
 apply List.ext_getElem?
 intro j
 by_cases hj:j<m
 ·rw [a6Z hj,List.getElem?_set,y4]
  by_cases hjm:r=j
  ·subst hjm;simp [h]
  ·rw [if_neg hjm,a6Z hj,if_neg (by omega)]
 ·rw [List.getElem?_eq_none (by simp [y4];omega),List.getElem?_eq_none (by simp [y4];omega)]
abbrev aV8 (m n k:Nat):Blk:={ mode:=.live,elem:=256,size:=6,rows:=[[C.t (ti n),.own 1 0 m true,.own 2 0 n true,.own 3 0 m true,.own 4 0 n true,.own 5 0 k true]],box:=true }
abbrev a0N (b m n:Nat) (V:Nat->Rat):Blk:={ mode:=.live,elem:=259,size:=5,rows:=S9 b m n V,box:=false }
abbrev Y7 (m:Nat) (O:Nat->Nat):Blk:={ mode:=.live,elem:=3,size:=1,rows:=toC (a11 m O),box:=false }
abbrev a1V (l:List (Nat × Bool)):Blk:={ mode:=.live,elem:=284,size:=2,rows:=toC (a0e l),box:=false }
abbrev a09 (m n:Nat) (fr:List (Nat × Bool)) (D:Fd):Hp:=
 aV8 m n fr.length::a0N 6 m n D.V::flB (rF n D.G)::Y7 m D.O::Y7 n D.F::a1V fr::(mF m n D.A).map flB
theorem a2O {m n:Nat} {fr:List (Nat × Bool)} {D:Fd}:(a09 m n fr D).length=m+6:=by simp [b8]
theorem a9o {b m n N:Nat} {V:Nat->Rat} (h:m+b<=N):okB N (a0N b m n V):=by
 intro r hr c hc
 obtain ⟨i,hi,rfl⟩:=List.mem_map.1 hr
 have:=List.mem_range.1 hi
 simp [frC] at hc
 rcases hc with rfl|rfl|rfl|rfl|rfl<;>first|trivial|(simp only;omega)
theorem b1d {m n k N:Nat} (h:6<=N):okB N (aV8 m n k):=by
 intro r hr c hc
 simp at hr
 subst hr
 simp at hc
 rcases hc with rfl|rfl|rfl|rfl|rfl|rfl<;>first|trivial|(simp only;omega)
theorem a6z {m n:Nat} {fr:List (Nat × Bool)} {D:Fd}:∀k ∈ a09 m n fr D,okB (m+6) k:=by
 intro k hk
 simp only [List.mem_cons] at hk
 rcases hk with rfl|rfl|rfl|rfl|rfl|rfl|hk
 ·exact b1d (by omega)
 ·exact a9o (Nat.le_refl _)
 ·exact G9 rfl
 ·exact G9 rfl
 ·exact G9 rfl
 ·exact G9 rfl
 ·obtain ⟨l,_,rfl⟩:=List.mem_map.1 hk
  exact G9 rfl
theorem b11 (x:Rat):(fz x).p.sg=0↔x=0:=by
 show x.num.sign=0↔_
 rw [Int.sign_eq_zero_iff_zero,Rat.num_eq_zero]
theorem rl0:rl 0<=1:=by
 have h0:=t4 (x:=0) (by decide) (by decide)
 have h1:=t4 (x:=1) (by decide) (by decide)
 show max (bl 0) (bl 1)<=1
 omega
theorem rl1:rl 1<=1:=by
 have h1:=t4 (x:=1) (by decide) (by decide)
 show max (bl 1) (bl 1)<=1
 omega
theorem b8h (x y:Rat) (hy:y≠0) (lx:rl x<=60000) (ly:rl y<=60000):a9 Tryz.prog 301 [frS (fz x),frS (fz y)] [] (.tup [frS (fz (x / y)),a7 .i64 0]) []:=by
 have r1:=J4 x (by omega)
 have r2:=J4 y (by omega)
 have x1:=G4 x
 have x2:=H5 x
 have y1:=G4 y
 have y2:=H5 y
 have hn:y.num≠0:=fun h=>hy (Rat.num_eq_zero.1 h)
 have hs:y.num.sign≠0:=fun h=>hn (Int.sign_eq_zero_iff_zero.1 h)
 have hsg:=b11 y
 have l1:=G5 x.num y.den
 have l3:=G5 x.den y.num
 have t1:=a19 x.num y.den (by omega) (by omega)
 have t3:=a19 x.den y.num (by omega) (by omega)
 have n:=at7 (x.num*y.den) (x.den*y.num) (Int.mul_ne_zero (aY3 x) hn) (by omega) (by omega)
 rw [← b5P] at n
 (refine ac Tryz.func301 ?_;(conv=>whnf);repeat (refine zy ?_;conv=>whnf))
 repeat' (first|refine zz ?_|refine qp r1 ?_|refine qp r2 ?_|refine qp t1 ?_|refine qp t3 ?_|refine qp n ?_|refine zd ?_ ?_<;>intro h<;>try omega|refine zy ?_|fail)<;>conv=>whnf
 all_goals first
  |(exfalso;simp_all;done)
  |exact W9 rfl
theorem a2V (x:Rat) (lx:rl x<=60000):a9 Tryz.prog 256 [frS (fz x)] [] (frS (fz (-x))) []:=by
 have r1:=J4 x (by omega)
 have x1:=G4 x
 have x2:=H5 x
 have n:=a7Y x.num (by omega)
 have s:=a9C x.den (by omega)
 have e:fz (-x)=⟨bz (-x.num),bz x.den⟩:=rfl
 rw [e]
 (refine ac Tryz.func256 ?_;(conv=>whnf);repeat (refine zy ?_;conv=>whnf))
 repeat' (first|refine zz ?_|refine qp r1 ?_|refine qp n ?_|refine qp s ?_|refine zd ?_ ?_<;>intro h<;>try omega|refine zy ?_|fail)<;>conv=>whnf
 all_goals first
  |(exfalso;simp_all;done)
  |exact k8 ⟨rfl,rfl,rfl,rfl,trivial⟩
theorem a9R (x:Rat):a9 Tryz.prog 294 [frS (fz x)] [] (f9 (decide (x=0))) []:=by
 have h:=b11 x
 (refine ac Tryz.func294 ?_;(conv=>whnf);repeat (refine zy ?_;conv=>whnf))
 repeat' (first|refine zz ?_|refine zd ?_ ?_<;>intro h<;>try omega|refine zy ?_|fail)<;>conv=>whnf
 all_goals (refine b7 ?_;simp_all)
theorem aX3 (a b c:Rat) (la:rl a<=60000) (lb:rl b<=30000) (lc:rl c<=30000):a9 Tryz.prog 295 [frS (fz a),frS (fz b),frS (fz c)] [] (frS (fz (a - b*c))) []:=by
 have z1:=a9R b
 have z2:=a9R c
 have m:=ad8 b c (by omega) (by omega)
 have lm:=a3c b c
 have s:=b41 a (b*c) la (by omega)
 by_cases hb:b=0
 ·have e:a - b*c=a:=by rw [hb];grind
  rw [e]
  (refine ac Tryz.func295 ?_;(conv=>whnf);repeat (refine zy ?_;conv=>whnf))
  repeat' (first|refine zz ?_|refine qp z1 ?_|refine qp z2 ?_|refine qp m ?_|refine qp s ?_|refine zd ?_ ?_<;>intro h<;>try omega|refine zy ?_|fail)<;>conv=>whnf
  all_goals first
   |(exfalso;simp_all;done)
   |exact k8 ⟨rfl,rfl,rfl,rfl,trivial⟩
 ·by_cases hc:c=0
  ·have e:a - b*c=a:=by rw [hc];grind
   rw [e]
   (refine ac Tryz.func295 ?_;(conv=>whnf);repeat (refine zy ?_;conv=>whnf))
   repeat' (first|refine zz ?_|refine qp z1 ?_|refine qp z2 ?_|refine qp m ?_|refine qp s ?_|refine zd ?_ ?_<;>intro h<;>try omega|refine zy ?_|fail)<;>conv=>whnf
   all_goals first
    |(exfalso;simp_all;done)
    |exact k8 ⟨rfl,rfl,rfl,rfl,trivial⟩
  ·(refine ac Tryz.func295 ?_;(conv=>whnf);repeat (refine zy ?_;conv=>whnf))
   repeat' (first|refine zz ?_|refine qp z1 ?_|refine qp z2 ?_|refine qp m ?_|refine qp s ?_|refine zd ?_ ?_<;>intro h<;>try omega|refine zy ?_|fail)<;>conv=>whnf
   all_goals first
    |(exfalso;simp_all;done)
    |exact k8 ⟨rfl,rfl,rfl,rfl,trivial⟩
theorem aR8 (a b:Rat) (hb:b≠0) (la:rl a<=60000) (lb:rl b<=60000):a9 Tryz.prog 293 [frS (fz a),frS (fz b)] [] (frS (fz (a / b))) []:=by
 have d:=b8h a b hb la lb
 (refine ac Tryz.func293 ?_;(conv=>whnf);repeat (refine zy ?_;conv=>whnf))
 repeat' (first|refine zz ?_|refine qp d ?_|refine zd ?_ ?_<;>intro h<;>try omega|refine zy ?_|fail)<;>conv=>whnf
 all_goals exact k8 ⟨rfl,rfl,rfl,rfl,trivial⟩
def tkF (a row:Nat->Rat) (s k:Nat):Nat->Rat:=fun j=>if j<k∧j≠s then a j - a s*row j else a j
def tkA (a row:Nat->Rat) (s:Nat):Nat->Rat:=fun j=>if j=s then 0 - a s*row s else a j - a s*row j
def pZ (k n:Nat):List Fr:=(List.range n).map fun j=>if j<k then fz 0 else U0
theorem a9s (k n:Nat):(pZ k n).length=n:=by simp [pZ]
theorem a7Q {k n j:Nat} (h:j<n):(pZ k n)[j]? =some (if j<k then fz 0 else U0):=by simp [pZ,h]
theorem b3A {k n:Nat} (h:k<n):(pZ k n).set k (fz 0)=pZ (k+1) n:=by
 apply List.ext_getElem?
 intro j
 by_cases hj:j<n
 ·rw [a7Q hj,List.getElem?_set,a9s]
  by_cases hjk:k=j
  ·subst hjk;simp [h]
  ·rw [if_neg hjk,a7Q hj]
   have:(j<k+1)↔(j<k):=by omega
   simp only [this]
 ·rw [List.getElem?_eq_none (by simp [a9s];omega),List.getElem?_eq_none (by simp [a9s];omega)]
theorem b3y (n:Nat):pZ n n=rF n (fun _=>0):=List.map_congr_left fun j hj=>by rw [if_pos (List.mem_range.1 hj)]
theorem b5S (n:Nat) (hn:n<=1000):a9 Tryz.prog 254 [a7 .i64 n] [] (.c (.own 0 0 n true)) [flB (rF n fun _=>0)]:=by
 have i0:=N7 0 (by decide) (by decide)
 have hnn:(n:Int).toNat=n:=by omega
 (refine ac Tryz.func254 ?_;(conv=>whnf);repeat (refine zy ?_;conv=>whnf))
 repeat' (first|refine zz ?_|refine a3K (by omega) (by omega) (by omega) (by decide) ?_|refine zd ?_ ?_<;>intro h<;>try omega|refine zy ?_|fail)<;>conv=>whnf
 refine f5 d7 (fun k=>([a7 .i64 n,J,J,S.c (C.own 0 0 n true),J,J,J,J,a7 .i64 n,a7 .i64 k,J,J,J,J,J,J,J,J],[flB (pZ k n)])) n (fun _=>True) [some 0] trivial
  ⟨rfl,rfl,⟨⟨rfl,rfl,rfl,.inr (a6W ?_ ?_)⟩,trivial⟩,⟨i7 rfl,⟨rfl,rfl,by omega,fun h=>h⟩,b9 (by omega),b9 rfl,trivial⟩⟩ ?_
 ·simp [C4,toC,a9s]
 ·intro i x y hx hy
  simp only [C4,List.getElem?_replicate] at hx
  split at hx
  ·rename_i hi
   injection hx with hx
   subst hx
   have hy:(toC ((pZ 0 n).map s7))[i]? =some y:=hy
   rw [toC,List.getElem?_map,List.getElem?_map,a7Q (by omega),if_neg (by omega)] at hy
   injection hy with hy
   subst hy
   exact ⟨rfl,rfl,rfl,rfl,trivial⟩
  ·cases hx
 intro k hk _
 by_cases hlt:k<n
 ·obtain ⟨pf,hpf⟩:∃pf,(pZ k n)[k]? =some pf:=⟨_,a7Q hlt⟩
  have gp:(pZ k n)[0+(k:Int).toNat]? =some pf:=by rw [Nat.zero_add,show (k:Int).toNat=k by omega];exact hpf
  have eM:0+(k:Int).toNat=k:=by omega
  conv=>whnf
  repeat' (first|refine zz ?_|refine qp i0 ?_|refine s9 gp ?_|refine zd ?_ ?_<;>intro h<;>try omega|refine zy ?_|fail)<;>conv=>whnf
  all_goals first
   |omega
   |(refine ⟨hlt,trivial,[some 0],rfl,rfl,⟨a8 (rows:=(pZ (k+1) n).map s7) rfl rfl rfl ?_ rfl,trivial⟩,⟨rfl,⟨rfl,rfl,rfl,fun h=>h⟩,rfl,b9 (by omega),trivial⟩⟩
     have e:=I3 (row:=pZ k n) (y:=fz 0) eM
     rw [b3A hlt] at e
     exact congrArg Blk.rows e)
 ·have hke:k=n:=by omega
  subst hke
  conv=>whnf
  repeat' (first|refine zz ?_|refine zd ?_ ?_<;>intro h<;>try omega|refine zy ?_|fail)<;>conv=>whnf
  all_goals first
   |omega
   |exact ⟨[some 0],rfl,rfl,⟨a8 (rows:=(rF k fun _=>0).map s7) rfl rfl rfl (by rw [← b3y]) rfl,trivial⟩,⟨rfl,rfl,rfl,fun h=>h⟩⟩
theorem b32 (a row:Nat->Rat) (s:Nat):tkF a row s 0=a:=by funext j;unfold tkF;rw [if_neg (by omega)]
theorem b7Q (a row:Nat->Rat) (s k:Nat):tkF a row s k k=a k:=by unfold tkF;rw [if_neg (by omega)]
theorem b93 (a row:Nat->Rat) (s k:Nat):tkF a row s k s=a s:=by unfold tkF;rw [if_neg (by omega)]
theorem b3M {a row:Nat->Rat} {s k:Nat} (h:k≠s):(fun j=>if j=k then a k - a s*row k else tkF a row s k j)=tkF a row s (k+1):=by
 funext j
 by_cases hj:j=k
 ·subst hj;rw [if_pos rfl];unfold tkF;rw [if_pos ⟨by omega,h⟩]
 ·rw [if_neg hj];unfold tkF
  have:(j<k∧j≠s)↔(j<k+1∧j≠s):=by omega
  simp only [this]
theorem b4D {a row:Nat->Rat} {s:Nat}:tkF a row s s=tkF a row s (s+1):=by
 funext j;unfold tkF
 have:(j<s∧j≠s)↔(j<s+1∧j≠s):=by omega
 simp only [this]
theorem b6u {a row:Nat->Rat} {s n:Nat}:rF n (fun j=>if j=s then 0 - a s*row s else tkF a row s n j)=rF n (tkA a row s):=y5 fun j hj=>by
 unfold tkA tkF
 by_cases h:j=s
 ·rw [if_pos h,if_pos h]
 ·rw [if_neg h,if_neg h,if_pos ⟨hj,h⟩]
abbrev frX (x:Rat):Blk:={ mode:=.live,elem:=83,size:=4,rows:=[frC (fz x)],box:=true }
theorem aS2 {ρ:List (Option Nat)} {H:Hp} (x:Rat):a4c ρ H (frX x) (frX x):=⟨rfl,rfl,rfl,.inl ⟨rfl,d6 [s7 (fz x)]⟩⟩
theorem b8i (n s:Nat) (a row:Nat->Rat) (hn:n<=1000) (hs:s<n) (ha:∀j,j<n->rl (a j)<=30000) (hr:∀j,j<n->rl (row j)<=30000):
 a9 Tryz.prog 296 [.c (.own 0 0 n true),.c (.own 1 0 n true),a7 .i64 s] [flB (rF n a),flB (rF n row)] (.tup []) [flB (rF n (tkA a row s)),flB (rF n row)]:=by
 have i0:=N7 0 (by decide) (by decide)
 have ls:=ha s hs
 have eS:0+(s:Int).toNat=s:=by omega
 have gs:(rF n a)[0+(s:Int).toNat]? =some (fz (a s)):=by rw [eS,H6 hs]
 (refine ac Tryz.func296 ?_;(conv=>whnf);repeat (refine zy ?_;conv=>whnf))
 repeat' (first|refine zz ?_|refine s9 gs ?_|refine zd ?_ ?_<;>intro h<;>try omega|refine zy ?_|fail)<;>conv=>whnf
 refine f5 d7 (fun k=>([S.c (C.own 0 0 n true),S.c (C.own 1 0 n true),a7 .i64 s,J,J,J,S.c (C.ptr 2 0 0),J,J,J,J,J,J,a7 .i64 n,a7 .i64 k,J,J,J,J,J,J,J,J,J,J,J,J,J,J,J,J,J,J,J,J,J,J,J,J,J,J,J,J,J],[flB (rF n (tkF a row s k)),flB (rF n row),frX (a s)])) n (fun _=>True) [some 0,some 1,some 2] trivial
  ⟨rfl,rfl,⟨a8 (rows:=(rF n a).map s7) rfl rfl rfl rfl (by rw [b32]),a8 rfl rfl rfl rfl rfl,aS2 _,trivial⟩,⟨⟨rfl,rfl,rfl,fun h=>h⟩,⟨rfl,rfl,rfl,fun h=>h⟩,rfl,⟨rfl,rfl,rfl⟩,b9 rfl,b9 rfl,trivial⟩⟩ ?_
 intro k hk _
 by_cases hlt:k<n
 ·have eM:0+(k:Int).toNat=k:=by omega
  have lk:=ha k hlt
  have lr:=hr k hlt
  have g1:(rF n (tkF a row s k))[0+(k:Int).toNat]? =some (fz (a k)):=by rw [eM,H6 hlt,b7Q]
  have g2:(rF n row)[0+(k:Int).toNat]? =some (fz (row k)):=by rw [eM,H6 hlt]
  have le:=aX3 (a k) (a s) (row k) (by omega) (by omega) (by omega)
  by_cases hks:k=s
  ·subst hks
   conv=>whnf
   repeat' (first|refine zz ?_|refine qp le ?_|refine s9 g1 ?_|refine s9 g2 ?_|refine zd ?_ ?_<;>intro h<;>try omega|refine zy ?_|fail)<;>conv=>whnf
   all_goals first
    |omega
    |exact ⟨hlt,trivial,[some 0,some 1,some 2],rfl,rfl,⟨a8 (rows:=(rF n (tkF a row k k)).map s7) rfl rfl rfl rfl (by rw [b4D]),a8 rfl rfl rfl rfl rfl,aS2 _,trivial⟩,⟨⟨rfl,rfl,rfl,fun h=>h⟩,⟨rfl,rfl,rfl,fun h=>h⟩,rfl,⟨rfl,rfl,rfl⟩,b9 rfl,b9 rfl,trivial⟩⟩
  ·conv=>whnf
   repeat' (first|refine zz ?_|refine qp le ?_|refine s9 g1 ?_|refine s9 g2 ?_|refine zd ?_ ?_<;>intro h<;>try omega|refine zy ?_|fail)<;>conv=>whnf
   all_goals first
    |omega
    |(refine ⟨hlt,trivial,[some 0,some 1,some 2],rfl,rfl,⟨a8 (rows:=(rF n (tkF a row s (k+1))).map s7) rfl rfl rfl ?_ rfl,a8 rfl rfl rfl rfl rfl,aS2 _,trivial⟩,⟨⟨rfl,rfl,rfl,fun h=>h⟩,⟨rfl,rfl,rfl,fun h=>h⟩,rfl,⟨rfl,rfl,rfl⟩,b9 rfl,b9 rfl,trivial⟩⟩
      have e:=I3 (row:=rF n (tkF a row s k)) (y:=fz (a k - a s*row k)) eM
      rw [R8 hlt,b3M hks] at e
      exact congrArg Blk.rows e)
 ·have hke:k=n:=by omega
  subst hke
  have g2:(rF k row)[0+(s:Int).toNat]? =some (fz (row s)):=by rw [eS,H6 hs]
  have lr:=hr s hs
  have le:=aX3 0 (a s) (row s) (by have:=rl0;omega) (by omega) (by omega)
  have le:a9 Tryz.prog 295 [frS (fz ((0:Int):Rat)),frS (fz (a s)),frS (fz (row s))] [] (frS (fz (0 - a s*row s))) []:=le
  conv=>whnf
  have g1:(rF k (tkF a row s k))[0+(s:Int).toNat]? =some (fz (a s)):=by rw [eS,H6 hs,b93]
  repeat' (first|refine zz ?_|refine qp i0 ?_|refine qp le ?_|refine s9 g2 ?_|refine s9 g1 ?_|refine zd ?_ ?_<;>intro h<;>try omega|refine zy ?_|fail)<;>conv=>whnf
  all_goals first
   |omega
   |(refine ⟨[some 0,some 1],rfl,rfl,⟨a8 (rows:=(rF k (tkA a row s)).map s7) rfl rfl rfl ?_ rfl,a8 rfl rfl rfl rfl rfl,trivial⟩,trivial⟩
     have e:=I3 (row:=rF k (tkF a row s k)) (y:=fz (0 - a s*row s)) eS
     rw [R8 hs,b6u] at e
     exact congrArg Blk.rows e)
def leI:Option Nat->Int
 |none=>-1
 |some a=>a
theorem a54 (f:Nat->Nat) (p:Nat->Bool) (k:Nat):U8 f p (k+1)=match U8 f p k with
 |none=>if p k then some k else none
 |some a=>if p k && decide (f k<f a) then some k else some a:=rfl
theorem N1 {m:Nat} {f:Nat->Nat} {n:Int} {i:Nat} {K:List T->Prop} (e:n=i) (h:i<m) (k:K [ti (f i)]):∃row,0<=n∧(a11 m f)[n.toNat]? =some row∧K row:=by
 subst e;exact ⟨_,by omega,by rw [show (i:Int).toNat=i by omega,a6Z h],k⟩
abbrev a7G (m:Nat) (f:Nat->Nat):S:=.c (.t (.sl 1 .any (a11 m f)))
set_option maxHeartbeats 1000000 in
theorem a4X (m:Nat) (hm:m<=100000) (f:Nat->Nat) (p:Nat->Bool) (g:FuncId) (caps:List T) (hg:∀i:Nat,i<m->a9 Tryz.prog g (a7 .i64 i::caps.map fun x=>.c (.t x)) [] (f9 (p i)) []):
 a9 Tryz.prog 257 [a7G m f,.c (.t (.fn (.func g) caps))] [] (a7 .i64 (leI (U8 f p m))) []:=by
 have m1:(a11 m f).length=m:=y4 m f
 (refine ac Tryz.func257 ?_;(conv=>whnf);repeat (refine zy ?_;conv=>whnf))
 repeat' (first|refine zz ?_|refine zd ?_ ?_<;>intro h<;>try omega|refine zy ?_|fail)<;>conv=>whnf
 refine f5 d7 (fun k=>([a7G m f,S.c (C.t (T.fn (.func g) caps)),J,J,J,a7 .i64 (leI (U8 f p k)),J,J,a7G m f,a7 .i64 m,a7 .i64 k,J,J,J,J,J,J,J,J,J,J,J,J,J,J,J,J,J,J,J,J,J,J],[])) m (fun _=>True) [] trivial
  ⟨rfl,rfl,trivial,⟨i7 rfl,i7 rfl,b9 rfl,i7 rfl,b9 (by omega),b9 rfl,trivial⟩⟩ ?_
 intro k hk _
 by_cases hlt:k<m
 ·have hgr:=hg k hlt
  have ha:(a7 .i64 (k:Int)::caps.map fun x=>S.c (C.t x)).all S.isT=true:=by simp [S.isT,C.isT,a7]
  cases hp:p k with
  |false=>
   rw [hp] at hgr
   have e1:leI (U8 f p k)=leI (U8 f p (k+1)):=by
    rw [a54,hp];cases U8 f p k<;>rfl
   conv=>whnf
   repeat' (first|refine zz ?_|refine .inl ⟨_,_,B7 hgr ha rfl,?_⟩|refine N1 rfl hlt ?_|refine zd ?_ ?_<;>intro h<;>try omega|refine zy ?_|fail)<;>conv=>whnf
   all_goals first
    |omega
    |exact ⟨hlt,trivial,[],rfl,rfl,trivial,⟨rfl,rfl,b9 e1,rfl,rfl,b9 rfl,trivial⟩⟩
  |true=>
   rw [hp] at hgr
   cases hl:U8 f p k with
   |none=>
    have hle:leI none=-1:=rfl
    have e1:(k:Int)=leI (U8 f p (k+1)):=by rw [a54,hl,hp];rfl
    conv=>whnf
    repeat' (first|refine zz ?_|refine .inl ⟨_,_,B7 hgr ha rfl,?_⟩|refine N1 rfl hlt ?_|refine zd ?_ ?_<;>intro h<;>try omega|refine zy ?_|fail)<;>conv=>whnf
    all_goals first
     |omega
     |exact ⟨hlt,trivial,[],rfl,rfl,trivial,⟨rfl,rfl,b9 e1,rfl,rfl,b9 rfl,trivial⟩⟩
   |some b=>
    have hb:=(H7 hl).1
    have hle:leI (some b)=b:=rfl
    by_cases hc:f k<f b
    ·have e1:(k:Int)=leI (U8 f p (k+1)):=by rw [a54,hl,hp];simp [hc,leI]
     conv=>whnf
     repeat' (first|refine zz ?_|refine .inl ⟨_,_,B7 hgr ha rfl,?_⟩|refine N1 rfl hlt ?_|refine N1 (i:=b) hle (by omega) ?_|refine zd ?_ ?_<;>intro h<;>try omega|refine zy ?_|fail)<;>conv=>whnf
     all_goals first
      |omega
      |exact ⟨hlt,trivial,[],rfl,rfl,trivial,⟨rfl,rfl,b9 e1,rfl,rfl,b9 rfl,trivial⟩⟩
    ·have e1:leI (some b)=leI (U8 f p (k+1)):=by rw [a54,hl,hp];simp [hc,leI]
     conv=>whnf
     repeat' (first|refine zz ?_|refine .inl ⟨_,_,B7 hgr ha rfl,?_⟩|refine N1 rfl hlt ?_|refine N1 (i:=b) hle (by omega) ?_|refine zd ?_ ?_<;>intro h<;>try omega|refine zy ?_|fail)<;>conv=>whnf
     all_goals first
      |omega
      |exact ⟨hlt,trivial,[],rfl,rfl,trivial,⟨rfl,rfl,b9 e1,rfl,rfl,b9 rfl,trivial⟩⟩
 ·have hke:k=m:=by omega
  subst hke
  conv=>whnf
  repeat' (first|refine zz ?_|refine zd ?_ ?_<;>intro h<;>try omega|refine zy ?_|fail)<;>conv=>whnf
  all_goals first
   |omega
   |exact j8 rfl
def a8C (m n:Nat) (D:Fd):List (List T):=(List.range m).map fun i=>s7 (fz (D.V i))++[T.sl 4 .any ((rF n (D.A i)).map s7)]
def b5K (m n:Nat) (fr:List (Nat × Bool)) (D:Fd):List T:=[ti n,.sl 5 .any (a8C m n D),.sl 4 .any ((rF n D.G).map s7),.sl 1 .any (a11 m D.O),.sl 1 .any (a11 n D.F),.sl 2 .any (a0e fr)]
theorem a8h {m n:Nat} {D:Fd} {i:Nat} (h:i<m):(a8C m n D)[i]? =some (s7 (fz (D.V i))++[T.sl 4 .any ((rF n (D.A i)).map s7)]):=by simp [a8C,h]
theorem a4Z (m n:Nat) (D:Fd):(a8C m n D).length=m:=by simp [a8C]
theorem a2v {m n:Nat} {D:Fd} {x:Int} {i:Nat} {K:List T->Prop} (e:x=i) (h:i<m) (k:K (s7 (fz (D.V i))++[T.sl 4 .any ((rF n (D.A i)).map s7)])):∃row,0<=x∧(a8C m n D)[x.toNat]? =some row∧K row:=by
 subst e;exact ⟨_,by omega,by rw [show (i:Int).toNat=i by omega,a8h h],k⟩
theorem a4I {n:Nat} {g:Nat->Rat} {x:Int} {j:Nat} {K:List T->Prop} (e:x=j) (h:j<n) (k:K (s7 (fz (g j)))):∃row,0<=x∧((rF n g).map s7)[x.toNat]? =some row∧K row:=by
 subst e;exact ⟨_,by omega,by rw [show (j:Int).toNat=j by omega,List.getElem?_map,H6 h];rfl,k⟩
theorem b2x (x:Rat):(fz x).p.sg<0↔x<0:=by
 show x.num.sign<0↔_
 rw [a6l];unfold sgR;split<;>(try split)<;>simp_all
theorem b3u (x:Rat):(fz x).p.sg > 0↔0<x:=by
 show x.num.sign > 0↔_
 rw [a6l];unfold sgR
 split
 ·constructor
  ·intro h;omega
  ·intro h;grind
 ·split<;>simp_all
abbrev a69 (m n:Nat) (fr:List (Nat × Bool)) (D:Fd):T:=.ptr [.ptr (b5K m n fr D)]
theorem b1r (m n:Nat) (fr:List (Nat × Bool)) (D:Fd) (i:Nat) (hi:i<m):
 a9 Tryz.prog 258 (a7 .i64 i::[a69 m n fr D].map fun x=>.c (.t x)) [] (f9 (decide (D.V i<0))) []:=by
 have h:=b2x (D.V i)
 (refine ac Tryz.func258 ?_;(conv=>whnf);repeat (refine zy ?_;conv=>whnf))
 repeat' (first|refine zz ?_|refine a2v rfl hi ?_|refine zd ?_ ?_<;>intro h<;>try omega|refine zy ?_|fail)<;>conv=>whnf
 all_goals (refine b7 ?_;simp_all)
theorem b27 (m n:Nat) (fr:List (Nat × Bool)) (D:Fd) (j:Nat) (hj:j<n):
 a9 Tryz.prog 259 (a7 .i64 j::[a69 m n fr D].map fun x=>.c (.t x)) [] (f9 (decide (0<D.G j))) []:=by
 have h:=b3u (D.G j)
 (refine ac Tryz.func259 ?_;(conv=>whnf);repeat (refine zy ?_;conv=>whnf))
 repeat' (first|refine zz ?_|refine a4I rfl hj ?_|refine zd ?_ ?_<;>intro h<;>try omega|refine zy ?_|fail)<;>conv=>whnf
 all_goals (refine b7 ?_;simp_all)
theorem am4 (m n:Nat) (fr:List (Nat × Bool)) (D:Fd) (r j:Nat) (hr:r<m) (hj:j<n):
 a9 Tryz.prog 260 (a7 .i64 j::[a69 m n fr D,T.ptr [ti r]].map fun x=>.c (.t x)) [] (f9 (decide (D.A r j<0))) []:=by
 have h:=b2x (D.A r j)
 (refine ac Tryz.func260 ?_;(conv=>whnf);repeat (refine zy ?_;conv=>whnf))
 repeat' (first|refine zz ?_|refine a2v rfl hr ?_|refine a4I rfl hj ?_|refine zd ?_ ?_<;>intro h<;>try omega|refine zy ?_|fail)<;>conv=>whnf
 all_goals (refine b7 ?_;simp_all)
theorem as2 (m n:Nat) (fr:List (Nat × Bool)) (D:Fd) (i s:Nat) (hi:i<m) (hs:s<n):
 a9 Tryz.prog 261 (a7 .i64 i::[a69 m n fr D,T.ptr [ti s]].map fun x=>.c (.t x)) [] (f9 (decide (0<D.A i s))) []:=by
 have h:=b3u (D.A i s)
 (refine ac Tryz.func261 ?_;(conv=>whnf);repeat (refine zy ?_;conv=>whnf))
 repeat' (first|refine zz ?_|refine a2v rfl hi ?_|refine a4I rfl hs ?_|refine zd ?_ ?_<;>intro h<;>try omega|refine zy ?_|fail)<;>conv=>whnf
 all_goals (refine b7 ?_;simp_all)
theorem b0i {H:Hp} {ia ir n s:Nat} {a row:Nat->Rat} (hne:ia≠ir) (ga:H[ia]? =some (flB (rF n a))) (gr:H[ir]? =some (flB (rF n row))) (hn:n<=1000) (hs:s<n) (ha:∀j,j<n->rl (a j)<=30000) (hr:∀j,j<n->rl (row j)<=30000):
 a9 Tryz.prog 296 [.c (.own ia 0 n true),.c (.own ir 0 n true),a7 .i64 s] H (.tup []) (H.set ia (flB (rF n (tkA a row s)))):=by
 have la:ia<H.length:=(lg1 ga).1
 refine Y1 [ia,ir] (b8i n s a row hn hs ha hr) rfl rfl rfl (by simp;exact hne) ?_ ?_ (by simp) rfl rfl (by simp) ?_ ?_
 ·intro i k hk
  match i,hk with
  |0,hk=>injection hk with hk;subst hk;exact ⟨rfl,rfl,a3E _,_,ga,G8 rfl⟩
  |1,hk=>injection hk with hk;subst hk;exact ⟨rfl,rfl,a3E _,_,gr,G8 rfl⟩
 ·intro k hk
  simp at hk
  rcases hk with rfl|rfl<;>(intro h;cases h)
 ·intro i k hk
  match i,hk with
  |0,hk=>
   injection hk with hk;subst hk
   refine ⟨_,?_,G8 rfl⟩
   show (H.set ia _)[ia]? =_
   rw [List.getElem?_set,if_pos rfl,if_pos la]
  |1,hk=>
   injection hk with hk;subst hk
   refine ⟨_,?_,G8 rfl⟩
   show (H.set ia _)[ir]? =_
   rw [List.getElem?_set,if_neg hne];exact gr
 ·intro j hj hjn
  simp at hjn
  rw [List.getElem?_set,if_neg (fun h=>hjn.1 h.symm)]
theorem a2l {b m n i r:Nat} {V:Nat->Rat} {K:List C->Prop} (e:i=r) (h:r<m) (k:K (frC (fz (V r))++[C.own (r+b) 0 n true])):∃row,(S9 b m n V)[i]? =some row∧K row:=by
 subst e;exact ⟨_,a2w h,k⟩
theorem b07 {rows:List (List C)} {i:Nat} {x:List C} {K:List C->Prop} (h:i<rows.length) (k:K x):∃row,(rows.set i x)[i]? =some row∧K row:=⟨x,List.getElem?_set_self h,k⟩
theorem b6P {rows:List (List C)} {i j:Nat} {x:List C} {K:List C->Prop} (h:i≠j) (k:∃row,rows[j]? =some row∧K row):∃row,(rows.set i x)[j]? =some row∧K row:=by
 rw [List.getElem?_set_ne h];exact k
def a4L (a:Nat->Rat) (p:Rat) (s k:Nat):Nat->Rat:=fun j=>if j<k∧j≠s then a j / p else a j
def A1 (D:Fd) (r s k:Nat):Nat->Nat->Rat:=fun i=>if i=r then a4L (D.A r) (D.A r s) s k else D.A i
theorem b9F {D:Fd} {r s k:Nat}:A1 D r s k r k=D.A r k:=by unfold A1 a4L;rw [if_pos rfl,if_neg (by omega)]
theorem ba7 {D:Fd} {r s k:Nat}:A1 D r s k r s=D.A r s:=by unfold A1 a4L;rw [if_pos rfl,if_neg (by omega)]
theorem b5Q {D:Fd} {r s k:Nat} (h:k≠s):(fun i=>if i=r then (fun j=>if j=k then D.A r k / D.A r s else A1 D r s k r j) else A1 D r s k i)=A1 D r s (k+1):=by
 funext i j
 by_cases hi:i=r
 ·subst hi
  simp only [if_true]
  unfold A1 a4L
  simp only [if_true]
  by_cases hj:j=k
  ·subst hj;rw [if_pos rfl,if_pos ⟨by omega,h⟩]
  ·rw [if_neg hj]
   have:(j<k∧j≠s)↔(j<k+1∧j≠s):=by omega
   simp only [this]
 ·rw [if_neg hi];unfold A1;rw [if_neg hi,if_neg hi]
theorem b5r {D:Fd} {r s:Nat}:A1 D r s s=A1 D r s (s+1):=by
 funext i j;unfold A1 a4L
 have:(j<s∧j≠s)↔(j<s+1∧j≠s):=by omega
 split
 ·simp only [this]
 ·rfl
theorem b5U {D:Fd} {r s k:Nat} (h:D.A r k=0):A1 D r s k=A1 D r s (k+1):=by
 funext i j;unfold A1 a4L
 split
 ·show (if j<k∧j≠s then D.A r j / D.A r s else D.A r j)=if j<k+1∧j≠s then D.A r j / D.A r s else D.A r j
  by_cases hj:j=k
  ·subst hj
   rw [if_neg (show ¬(j<j∧j≠s) by omega)]
   split
   ·rw [h];grind
   ·rfl
  ·have:(j<k∧j≠s)↔(j<k+1∧j≠s):=by omega
   simp only [this]
 ·rfl
theorem b0a {m n r:Nat} {A B:Nat->Nat->Rat} {g:Nat->Rat} (h:r<m) (e:(fun i=>if i=r then g else A i)=B):(mF m n A).set r (rF n g)=mF m n B:=by rw [b3N h,e]
def V1 (D:Fd) (r s:Nat):Nat->Rat:=fun i=>if i=r then D.V r / D.A r s else D.V i
def V2 (D:Fd) (r s k:Nat):Nat->Rat:=fun i=>if i=r then D.V r / D.A r s else if i<k then D.V i - D.A i s*(D.V r / D.A r s) else D.V i
def A2 (D:Fd) (r s k:Nat):Nat->Nat->Rat:=fun i=>if i=r then D.pRow r s else if i<k then tkA (D.A i) (D.pRow r s) s else D.A i
theorem aC0 {a row:Nat->Rat} {s:Nat} (h:a s=0):tkA a row s=a:=by
 funext j;unfold tkA
 by_cases hj:j=s
 ·rw [if_pos hj,hj,h];grind
 ·rw [if_neg hj,h];grind
theorem a10 {m i r:Nat} {f:Nat->Nat} {K:List C->Prop} (e:i=r) (h:r<m) (k:K [C.t (ti (f r))]):∃row,(toC (a11 m f))[i]? =some row∧K row:=by
 subst e;exact ⟨_,by simp [toC,a6Z h],k⟩
theorem L2 {α β:Type} {f:β->α} {M:List β} {T:List α} {i:Nat} {x:β} (h:M[i]? =some x):(M.map f++T)[i]? =some (f x):=by
 rw [List.getElem?_append_left (by simpa using (lg1 h).1),List.getElem?_map,h];rfl
theorem b37 {α β:Type} {f:β->α} {M:List β} {T:List α} {i:Nat} {x:β} (h:i<M.length):(M.map f++T).set i (f x)=(M.set i x).map f++T:=by
 rw [List.set_append_left _ _ (by simpa using h),←List.map_set]
theorem b6t {m n:Nat} {D:Fd} {r s:Nat} (hr:r<m) (hs:s<n):(mF m n (A1 D r s n)).set r ((rF n (A1 D r s n r)).set s (fz (((1:Int):Rat) / D.A r s)))=mF m n (A2 D r s 0):=by
 rw [R8 hs,b3N hr]
 refine aL0 fun i hi j hj=>?_
 unfold A2
 by_cases hir:i=r
 ·rw [if_pos hir,if_pos hir]
  unfold Fd.pRow A1 a4L
  rw [if_pos rfl]
  by_cases hjs:j=s
  ·rw [if_pos hjs,if_pos hjs];rfl
  ·rw [if_neg hjs,if_neg hjs,if_pos ⟨hj,hjs⟩]
 ·rw [if_neg hir,if_neg hir,if_neg (by omega)];unfold A1;rw [if_neg hir]
theorem b5d {D:Fd} {r s:Nat}:V2 D r s 0=V1 D r s:=by
 funext i;unfold V2 V1;split
 ·rfl
 ·rw [if_neg (by omega)]
theorem b9f {D:Fd} {r s k:Nat}:V2 D r s k r=D.V r / D.A r s:=by unfold V2;rw [if_pos rfl]
theorem b2y {D:Fd} {r s k:Nat} (h:k≠r):V2 D r s k k=D.V k:=by unfold V2;rw [if_neg h,if_neg (by omega)]
theorem bb1 {D:Fd} {r s k:Nat}:A2 D r s k r=D.pRow r s:=by unfold A2;rw [if_pos rfl]
theorem b7l {D:Fd} {r s k:Nat} (h:k≠r):A2 D r s k k=D.A k:=by unfold A2;rw [if_neg h,if_neg (by omega)]
theorem b03 {D:Fd} {r s k:Nat} (h:k≠r):(fun i=>if i=k then D.V k - D.A k s*(D.V r / D.A r s) else V2 D r s k i)=V2 D r s (k+1):=by
 funext i
 by_cases hi:i=k
 ·subst hi;rw [if_pos rfl];unfold V2;rw [if_neg h,if_pos (by omega)]
 ·rw [if_neg hi];unfold V2
  have:(i<k)↔(i<k+1):=by omega
  simp only [this]
theorem b0G {D:Fd} {r s k:Nat} (h:k≠r):(fun i=>if i=k then tkA (D.A k) (D.pRow r s) s else A2 D r s k i)=A2 D r s (k+1):=by
 funext i
 by_cases hi:i=k
 ·subst hi;rw [if_pos rfl];unfold A2;rw [if_neg h,if_pos (by omega)]
 ·rw [if_neg hi];unfold A2
  have:(i<k)↔(i<k+1):=by omega
  simp only [this]
theorem b6m {D:Fd} {r s:Nat}:V2 D r s r=V2 D r s (r+1):=by
 funext i;unfold V2
 by_cases h:i=r
 ·rw [if_pos h,if_pos h]
 ·have:(i<r)↔(i<r+1):=by omega
  simp only [this]
theorem b71 {D:Fd} {r s:Nat}:A2 D r s r=A2 D r s (r+1):=by
 funext i;unfold A2
 by_cases h:i=r
 ·rw [if_pos h,if_pos h]
 ·have:(i<r)↔(i<r+1):=by omega
  simp only [this]
theorem b5v {D:Fd} {r s k:Nat} (h:k≠r) (hz:D.A k s=0):V2 D r s k=V2 D r s (k+1):=by
 rw [← b03 h,hz];funext i
 by_cases hi:i=k
 ·subst hi;rw [if_pos rfl,b2y h];grind
 ·rw [if_neg hi]
theorem b6r {D:Fd} {r s k:Nat} (h:k≠r) (hz:D.A k s=0):A2 D r s k=A2 D r s (k+1):=by
 rw [← b0G h,aC0 hz];funext i
 by_cases hi:i=k
 ·subst hi;rw [if_pos rfl,b7l h]
 ·rw [if_neg hi]
theorem b8a {D:Fd} {r s m i:Nat} (h:i<m):V2 D r s m i=(D.exch r s).V i:=by
 unfold V2 Fd.exch;simp only
 split
 ·rfl
 ·first|rfl|rw [if_pos h]
theorem b8o {D:Fd} {r s m i j:Nat} (h:i<m):A2 D r s m i j=(D.exch r s).A i j:=by
 unfold A2 Fd.exch;simp only
 split
 ·rfl
 ·first|rfl|(rw [if_pos h];rfl)
abbrev L3 (m n:Nat) (fr:List (Nat × Bool)) (V:Nat->Rat) (G:Nat->Rat) (O F:Nat->Nat) (A:Nat->Nat->Rat) (T:Hp):Hp:=
 aV8 m n fr.length::a0N 6 m n V::flB (rF n G)::Y7 m O::Y7 n F::a1V fr::((mF m n A).map flB++T)
structure BdD (m n B:Nat) (D:Fd):Prop where
 v:∀i,i<m->rl (D.V i)<=B
 a:∀i,i<m->∀j,j<n->rl (D.A i j)<=B
 g:∀j,j<n->rl (D.G j)<=B
theorem aP1 {b m n r i:Nat} {V:Nat->Rat} {x:List C} {v:Rat} (e:i=r) (h:r<m) (hx:x=frC (fz v)++[C.own (r+b) 0 n true]):(S9 b m n V).set i x=S9 b m n (fun i=>if i=r then v else V i):=by
 subst e hx;exact b2a h
theorem aC3 {m n:Nat} {fr:List (Nat × Bool)} {V G:Nat->Rat} {O F:Nat->Nat} {A:Nat->Nat->Rat} {T T':Hp}:L3 m n fr V G O F A (T++T')=L3 m n fr V G O F A T++T':=by
 show aV8 m n fr.length::a0N 6 m n V::flB (rF n G)::Y7 m O::Y7 n F::a1V fr::((mF m n A).map flB++(T++T'))=aV8 m n fr.length::a0N 6 m n V::flB (rF n G)::Y7 m O::Y7 n F::a1V fr::(((mF m n A).map flB++T)++T')
 rw [List.append_assoc]
theorem a6V {m n:Nat} {fr:List (Nat × Bool)} {V G:Nat->Rat} {O F:Nat->Nat} {A:Nat->Nat->Rat} {T:Hp}:(L3 m n fr V G O F A T).length=m+6+T.length:=by simp [b8];omega
theorem b0u {m n N:Nat} {fr:List (Nat × Bool)} {V G:Nat->Rat} {O F:Nat->Nat} {A:Nat->Nat->Rat} {T:Hp} (h:m+6<=N) (hT:∀k ∈ T,okB N k):∀k ∈ L3 m n fr V G O F A T,okB N k:=by
 intro k hk
 simp only [List.mem_cons,List.mem_append] at hk
 rcases hk with rfl|rfl|rfl|rfl|rfl|rfl|hk|hk
 ·exact b1d (by omega)
 ·exact a9o h
 ·exact G9 rfl
 ·exact G9 rfl
 ·exact G9 rfl
 ·exact G9 rfl
 ·obtain ⟨l,_,rfl⟩:=List.mem_map.1 hk
  exact G9 rfl
 ·exact hT k hk
theorem U5 {n0 N m n:Nat} {fr:List (Nat × Bool)} {V G:Nat->Rat} {O F:Nat->Nat} {A:Nat->Nat->Rat} {T T' H:Hp} {env env':Env} (hH:H=L3 m n fr V G O F A (T++T')) (hN:m+6+T.length=N) (h0:n0<=N) (hT:∀k ∈ T,okB N k)
 (hE:a0H (idR N) H env env'):Ent n0 (idR N) env H env' (L3 m n fr V G O F A T):=by
 refine a7F (by rw [a6V];exact hN) h0 (b0u (by omega) hT) (fun i hi=>?_) hE
 rw [hH,aC3,List.getElem?_append_left (by rw [a6V];omega)]
theorem ad1 {n0 N m n:Nat} {fr:List (Nat × Bool)} {V G:Nat->Rat} {O F:Nat->Nat} {A:Nat->Nat->Rat} {T H:Hp} {r s:S} (hH:H=L3 m n fr V G O F A T) (hN:m+6=N) (h0:n0<=N) (hE:a8W (idR N) H r s):
 Fin n0 r H s (L3 m n fr V G O F A []):=by
 refine ar4 (by rw [a6V];exact hN) h0 (b0u (by omega) (by simp)) (fun i hi=>?_) hE
 have e:L3 m n fr V G O F A T=L3 m n fr V G O F A []++T:=aC3 (T:=[]) (T':=T)
 rw [hH,e,List.getElem?_append_left (by rw [a6V];simp;omega)]
theorem a0V {b0 b1 b2 b3 b4 b5 c0 c1 c2 c3 c4 c5:Blk} {L L':Hp} (h0:b0=c0) (h1:b1=c1) (h2:b2=c2) (h3:b3=c3) (h4:b4=c4) (h5:b5=c5) (h6:L=L'):b0::b1::b2::b3::b4::b5::L=c0::c1::c2::c3::c4::c5::L':=by
 subst h0 h1 h2 h3 h4 h5 h6;rfl
theorem ak3 {b m n r i:Nat} {V V':Nat->Rat} {x:List C} {v:Rat} (e:i=r) (h:r<m) (hx:x=frC (fz v)++[C.own (r+b) 0 n true]) (hV:(fun i=>if i=r then v else V i)=V'):x5 (a0N b m n V) ((a0N b m n V).rows.set i x)=a0N b m n V':=by
 have:=aP1 (V:=V) e h hx
 subst hV
 unfold x5
 simp only [this]
theorem a72 {m r i v:Nat} {O:Nat->Nat} (e:i=r) (h:r<m):x5 (Y7 m O) ((Y7 m O).rows.set i [C.t (ti v)])=Y7 m (fun i=>if i=r then v else O i):=by
 subst e
 have:(toC (a11 m O)).set i [C.t (ti v)]=toC (a11 m (fun j=>if j=i then v else O j)):=by
  rw [← b4i h];simp [toC,List.map_set]
 unfold x5
 simp only [this]
theorem ax7 {N:Nat} {x:Rat}:okB N (frX x):=G9 (rows:=[s7 (fz x)]) rfl
set_option maxHeartbeats 4000000 in
theorem aU4 (m n:Nat) (fr:List (Nat × Bool)) (D:Fd) (r s:Nat) (hm:m<=100000) (hn:n<=1000) (hr:r<m) (hs:s<n) (hp:D.A r s≠0) (hB:BdD m n 30000 D) (hB':BdD m n 30000 (D.exch r s)):
 a9 Tryz.prog 262 [.c (.ptr 0 0 0),a7 .i64 r,a7 .i64 s] (a09 m n fr D) (.tup []) (a09 m n fr (D.exch r s)):=by
 have eR:0+(r:Int).toNat=r:=by omega
 have eS:0+(s:Int).toNat=s:=by omega
 have gA:(mF m n D.A)[r]? =some (rF n (D.A r)):=Q8 hr
 have gs:(rF n (D.A r))[0+(s:Int).toNat]? =some (fz (D.A r s)):=by rw [eS,H6 hs]
 have bp:=hB.a r hr s hs
 have ov:=aR8 (D.V r) (D.A r s) hp (by have:=hB.v r hr;omega) (by omega)
 (refine ac Tryz.func262 ?_;(conv=>whnf);repeat (refine zy ?_;conv=>whnf))
 repeat' (first|refine zz ?_|refine qp ov ?_|refine qp C8 ?_|refine a4B (b8 _ _ _) ?_|refine H8 ?_|refine a3v ?_|refine a2l eR hr ?_|refine aJ2 gA ?_|refine X8 gA ?_|refine F0 (b8 _ _ _) ?_|refine a84 (b8 _ _ _) ?_|refine s9 gs ?_|refine b07 (by show _<(S9 _ _ _ _).length;rw [C8];omega) ?_|refine zd ?_ ?_<;>intro h<;>try omega|refine zy ?_|fail)<;>conv=>whnf
 refine f5 d7 (fun k=>([S.c (C.ptr 0 0 0),a7 .i64 r,a7 .i64 s,J,J,J,S.c (C.ptr 1 r 0),S.c (C.ptr (m+6) 0 0),J,J,J,J,J,J,J,J,J,J,J,J,J,J,J,J,J,J,J,J,J,J,J,J,J,J,J,J,J,a7 .i64 n,a7 .i64 k,J,J,J,J,J,J,J,J,J,J,J,J,J,J,J,J,J,J,J,J,J,J,J,J,J,J,J,J,J,J,J,J,J,J,J,J,J,J,J,J,J,J,J,J,J,J,J,J,J,J,J,J,J,J,J,J,J,J,J,J,J,J,J,J,J,J,J,J,J,J,J,J,J,J,J,J,J,J,J,J,J,J,J,J,J,J,J,J,J,J,J,J,J,J,J,J,J,J,J,J,J,J,J,J,J,J,J,J,J,J,J,J,J,J,J,J,J,J,J,J,J,J,J,J,J,J,J,J,J,J,J,J,J,J,J,J,J,J,J,J,J,J,J,J],L3 m n fr (V1 D r s) D.G D.O D.F (A1 D r s k) [frX (D.A r s)])) n (fun _=>True) (idR (m+7)) trivial ?_ ?_
 ·refine U5 (T':=[]) ?_ rfl (by simp [b8]) (by intro k hk;simp at hk;subst hk;exact ax7) ?_
  ·refine a0V rfl (ak3 eR hr rfl rfl) rfl rfl rfl rfl ?_
   have:A1 D r s 0=D.A:=by funext i j;unfold A1 a4L;split<;>simp_all
   rw [this];rfl
  ·exact ⟨⟨o8 (by omega),rfl,rfl⟩,rfl,rfl,⟨o8 (by omega),eR,rfl⟩,⟨o8 (by omega),rfl,rfl⟩,b9 (by omega),b9 rfl,trivial⟩
 intro k hk _
 have gA1:(mF m n (A1 D r s k))[r]? =some (rF n (A1 D r s k r)):=Q8 hr
 have lA:r<(mF m n (A1 D r s k)).length:=by rw [b8];exact hr
 by_cases hlt:k<n
 ·have eK:0+(k:Int).toNat=k:=by omega
  have gk:(rF n (A1 D r s k r))[0+(k:Int).toNat]? =some (fz (D.A r k)):=by rw [eK,H6 hlt,b9F]
  have bk:=hB.a r hr k hlt
  have ze:=a9R (D.A r k)
  have ovk:=aR8 (D.A r k) (D.A r s) hp (by omega) (by omega)
  by_cases hks:k=s
  ·subst hks
   conv=>whnf
   repeat' (first|refine zz ?_|refine qp ze ?_|refine qp ovk ?_|refine k6 (b8 _ _ _) ?_|refine H8 ?_|refine k5 ?_|refine a2l rfl hr ?_|refine X8 gA1 ?_|refine F0 (b8 _ _ _) ?_|refine s9 gk ?_|refine zd ?_ ?_<;>intro h<;>try omega|refine zy ?_|fail)<;>conv=>whnf
   all_goals first
    |omega
    |exact ⟨hlt,trivial,idR (m+7),U5 (T':=[]) (a0V rfl rfl rfl rfl rfl rfl (by rw [← b5r];rfl)) rfl (by simp [b8]) (by intro k hk;simp at hk;subst hk;exact ax7) ⟨⟨o8 (by omega),rfl,rfl⟩,rfl,rfl,⟨o8 (by omega),rfl,rfl⟩,⟨o8 (by omega),rfl,rfl⟩,rfl,b9 (by omega),trivial⟩⟩
  ·by_cases hz:D.A r k=0
   ·rw [decide_eq_true hz] at ze
    conv=>whnf
    repeat' (first|refine zz ?_|refine qp ze ?_|refine qp ovk ?_|refine k6 (b8 _ _ _) ?_|refine H8 ?_|refine k5 ?_|refine a2l rfl hr ?_|refine X8 gA1 ?_|refine F0 (b8 _ _ _) ?_|refine s9 gk ?_|refine zd ?_ ?_<;>intro h<;>try omega|refine zy ?_|fail)<;>conv=>whnf
    all_goals first
     |omega
     |exact ⟨hlt,trivial,idR (m+7),U5 (T':=[]) (a0V rfl rfl rfl rfl rfl rfl (by rw [← b5U hz];rfl)) rfl (by simp [b8]) (by intro k hk;simp at hk;subst hk;exact ax7) ⟨⟨o8 (by omega),rfl,rfl⟩,rfl,rfl,⟨o8 (by omega),rfl,rfl⟩,⟨o8 (by omega),rfl,rfl⟩,rfl,b9 (by omega),trivial⟩⟩
   ·rw [decide_eq_false hz] at ze
    conv=>whnf
    repeat' (first|refine zz ?_|refine qp ze ?_|refine qp ovk ?_|refine k6 (b8 _ _ _) ?_|refine H8 ?_|refine k5 ?_|refine a2l rfl hr ?_|refine X8 gA1 ?_|refine F0 (b8 _ _ _) ?_|refine s9 gk ?_|refine as5 lA (I3 (y:=fz (D.A r k / D.A r s)) eK) ?_|refine zd ?_ ?_<;>intro h<;>try omega|refine zy ?_|fail)<;>conv=>whnf
    all_goals first
     |omega
     |exact ⟨hlt,trivial,idR (m+7),U5 (T':=[]) (a0V rfl rfl rfl rfl rfl rfl (by rw [R8 hlt,b0a hr (b5Q hks)];rfl)) rfl (by simp [b8]) (by intro k hk;simp at hk;subst hk;exact ax7) ⟨⟨o8 (by omega),rfl,rfl⟩,rfl,rfl,⟨o8 (by omega),rfl,rfl⟩,⟨o8 (by omega),rfl,rfl⟩,rfl,b9 (by omega),trivial⟩⟩
 ·have hke:k=n:=by omega
  subst hke
  have gs1:(rF k (A1 D r s k r))[0+(s:Int).toNat]? =some (fz (D.A r s)):=by rw [eS,H6 hs,ba7]
  have i1:=N7 1 (by decide) (by decide)
  have ov1:=aR8 ((1:Int):Rat) (D.A r s) hp (by have:=rl1;show rl 1<=_;omega) (by omega)
  conv=>whnf
  repeat' (first|refine zz ?_|refine qp i1 ?_|refine qp ov1 ?_|refine k6 (b8 _ _ _) ?_|refine H8 ?_|refine k5 ?_|refine a2l rfl hr ?_|refine X8 gA1 ?_|refine F0 (b8 _ _ _) ?_|refine s9 gs1 ?_|refine as5 lA (I3 (y:=fz (((1:Int):Rat) / D.A r s)) eS) ?_|refine zd ?_ ?_<;>intro h<;>try omega|refine zy ?_|fail)<;>conv=>whnf
  all_goals try omega
  refine f5 d7 (fun q=>([S.c (C.ptr 0 0 0),a7 .i64 r,a7 .i64 s,J,J,J,S.c (C.ptr 1 r 0),J,J,J,J,J,J,J,J,J,J,J,J,J,J,J,J,J,J,J,J,J,J,J,J,J,J,J,J,J,J,J,J,J,J,J,J,J,J,J,J,J,J,J,J,J,J,J,J,J,J,J,J,J,J,J,J,J,J,J,J,J,J,J,J,J,J,J,J,J,J,J,J,J,J,J,J,J,a7 .i64 m,a7 .i64 q,J,J,J,J,J,J,J,J,J,J,J,J,J,J,J,J,J,J,J,J,J,J,J,J,J,J,J,J,J,J,J,J,J,J,J,J,J,J,J,J,J,J,J,J,J,J,J,J,J,J,J,J,J,J,J,J,J,J,J,J,J,J,J,J,J,J,J,J,J,J,J,J,J,J,J,J,J,J,J,J,J,J,J,J,J,J,J,J,J,J,J,J,J,J,J,J,J],L3 m k fr (V2 D r s q) D.G D.O D.F (A2 D r s q) [])) m (fun _=>True) (idR (m+6)) trivial ?_ ?_
  ·refine U5 (T:=[]) (T':=[frX (D.A r s)]) (a0V rfl (by rw [b5d]) rfl rfl rfl rfl (by rw [b6t hr hs];rfl)) rfl (by simp [b8]) (by simp) ⟨⟨o8 (by omega),rfl,rfl⟩,rfl,rfl,⟨o8 (by omega),rfl,rfl⟩,b9 (by omega),b9 rfl,trivial⟩
  have eP:∀j,(D.exch r s).A r j=D.pRow r s j:=fun j=>by show (if r=r then _ else _)=_;rw [if_pos rfl]
  have har:∀j,j<k->rl (D.pRow r s j)<=30000:=fun j hj=>by rw [← eP];exact hB'.a r hr j hj
  intro q hq _
  have gAr:(mF m k (A2 D r s q))[r]? =some (rF k (D.pRow r s)):=by rw [Q8 hr,bb1]
  by_cases hqm:q<m
  ·have eQ:0+(q:Int).toNat=q:=by omega
   have lQ:q<(mF m k (A2 D r s q)).length:=by rw [b8];exact hqm
   have ze:=a9R (D.A q s)
   by_cases hqr:q=r
   ·subst hqr
    conv=>whnf
    repeat' (first|refine zz ?_|refine k6 (b8 _ _ _) ?_|refine H8 ?_|refine k5 ?_|refine zd ?_ ?_<;>intro h<;>try omega|refine zy ?_|fail)<;>conv=>whnf
    all_goals first
     |omega
     |exact ⟨hqm,trivial,idR (m+6),U5 (T:=[]) (T':=[]) (a0V rfl (by rw [← b6m]) rfl rfl rfl rfl (by rw [← b71];rfl)) rfl (by simp [b8]) (by simp) ⟨⟨o8 (by omega),rfl,rfl⟩,rfl,rfl,⟨o8 (by omega),rfl,rfl⟩,rfl,b9 (by omega),trivial⟩⟩
   ·have gAq:(mF m k (A2 D r s q))[q]? =some (rF k (D.A q)):=by rw [Q8 hqm,b7l hqr]
    have gqs:(rF k (D.A q))[0+(s:Int).toNat]? =some (fz (D.A q s)):=by rw [eS,H6 hs]
    by_cases hz:D.A q s=0
    ·rw [decide_eq_true hz] at ze
     conv=>whnf
     repeat' (first|refine zz ?_|refine qp ze ?_|refine k6 (b8 _ _ _) ?_|refine H8 ?_|refine k5 ?_|refine a2l eQ hqm ?_|refine X8 gAq ?_|refine s9 gqs ?_|refine zd ?_ ?_<;>intro h<;>try omega|refine zy ?_|fail)<;>conv=>whnf
     all_goals first
      |omega
      |exact ⟨hqm,trivial,idR (m+6),U5 (T:=[]) (T':=[]) (a0V rfl (by rw [← b5v hqr hz]) rfl rfl rfl rfl (by rw [← b6r hqr hz];rfl)) rfl (by simp [b8]) (by simp) ⟨⟨o8 (by omega),rfl,rfl⟩,rfl,rfl,⟨o8 (by omega),rfl,rfl⟩,rfl,b9 (by omega),trivial⟩⟩
    ·rw [decide_eq_false hz] at ze
     have b1:=hB.v q hqm
     have b2:=hB.a q hqm s hs
     have b3:=hB'.v r hr
     have haq:∀j,j<k->rl (D.A q j)<=30000:=hB.a q hqm
     have le:=aX3 (V2 D r s q q) (D.A q s) (V2 D r s q r) (by rw [b2y hqr];omega) (by omega) (by rw [b9f];have e:(D.exch r s).V r=D.V r / D.A r s:=(by show (if r=r then _ else _)=_;rw [if_pos rfl]);rw [← e];omega)
     conv=>whnf
     repeat' (first|refine zz ?_|refine qp ze ?_|refine qp le ?_|refine qp C8 ?_|refine k6 (b8 _ _ _) ?_|refine H8 ?_|refine k5 ?_|refine a2l eQ hqm ?_|refine a2l rfl hr ?_|refine X8 gAq ?_|refine s9 gqs ?_|refine b07 (by show _<(S9 _ _ _ _).length;rw [C8];omega) ?_|refine b6P (by omega) (a2l rfl hr ?_)|refine .inr ⟨_,_,b0i (ia:=q+6) (ir:=r+6) (by omega) (L2 gAq) (L2 gAr) hn hs haq har,?_⟩|refine zd ?_ ?_<;>intro h<;>try omega|refine zy ?_|fail)<;>conv=>whnf
     all_goals first
      |omega
      |exact ⟨hqm,trivial,idR (m+6),U5 (T:=[]) (T':=[]) (a0V rfl (ak3 (v:=V2 D r s q q - D.A q s*V2 D r s q r) eQ hqm rfl (by rw [b2y hqr,b9f];exact b03 hqr)) rfl rfl rfl rfl (by rw [b37 lQ,b0a hqm (b0G hqr)];rfl)) rfl (by simp [b8]) (by simp) ⟨⟨o8 (by omega),rfl,rfl⟩,rfl,rfl,⟨o8 (by omega),rfl,rfl⟩,rfl,b9 (by omega),trivial⟩⟩
  ·have hqe:q=m:=by omega
   subst hqe
   have ggs:(rF k D.G)[0+(s:Int).toNat]? =some (fz (D.G s)):=by rw [eS,H6 hs]
   have ze:=a9R (D.G s)
   have eL:a0N 6 q k (V2 D r s q)=a0N 6 q k (D.exch r s).V:=by
    have:S9 6 q k (V2 D r s q)=S9 6 q k (D.exch r s).V:=List.map_congr_left fun i hi=>by rw [b8a (List.mem_range.1 hi)]
    unfold a0N;rw [this]
   have eA:mF q k (A2 D r s q)=mF q k (D.exch r s).A:=aL0 fun i hi j _=>b8o hi
   have eO:a11 q (fun i=>if i=r then D.F s else D.O i)=a11 q (D.exch r s).O:=rfl
   have eF:a11 k (fun j=>if j=s then D.O r else D.F j)=a11 k (D.exch r s).F:=rfl
   have e0:a09 q k fr (D.exch r s)=L3 q k fr (D.exch r s).V (D.exch r s).G (D.exch r s).O (D.exch r s).F (D.exch r s).A []:=by
    show _::_::_::_::_::_::_=_::_::_::_::_::_::(_++[])
    rw [List.append_nil]
   by_cases hz:D.G s=0
   ·have eG:(D.exch r s).G=D.G:=by have:=aC0 (row:=D.pRow r s) hz;exact this
    rw [decide_eq_true hz] at ze
    conv=>whnf
    repeat' (first|refine zz ?_|refine qp ze ?_|refine qp 9 ?_|refine k6 (b8 _ _ _) ?_|refine H8 ?_|refine k5 ?_|refine s9 ggs ?_|refine a10 eR hr ?_|refine a10 eS hs ?_|refine bl0 [9] ?_|refine zd ?_ ?_<;>intro h<;>try omega|refine zy ?_|fail)<;>conv=>whnf
    all_goals first
     |omega
     |(rw [e0];exact ad1 (T:=[]) (a0V rfl eL (by rw [eG]) (a72 eR hr) (a72 eS hs) rfl (by rw [eA])) rfl (by simp [b8]) trivial)
   ·have eG:(D.exch r s).G=tkA D.G (D.pRow r s) s:=rfl
    rw [decide_eq_false hz] at ze
    conv=>whnf
    repeat' (first|refine zz ?_|refine qp ze ?_|refine qp 9 ?_|refine k6 (b8 _ _ _) ?_|refine H8 ?_|refine k5 ?_|refine s9 ggs ?_|refine a2l rfl hr ?_|refine a10 eR hr ?_|refine a10 eS hs ?_|refine bl0 [9] ?_|refine .inr ⟨_,_,b0i (ia:=2) (ir:=r+6) (by omega) rfl (L2 gAr) hn hs hB.g har,?_⟩|refine zd ?_ ?_<;>intro h<;>try omega|refine zy ?_|fail)<;>conv=>whnf
    all_goals first
     |omega
     |(rw [e0];exact ad1 (T:=[]) (a0V rfl eL (by rw [eG]) (a72 eR hr) (a72 eS hs) rfl (by rw [eA])) rfl (by simp [b8]) trivial)
end Go.Proofs.YtdbogogfeffjlaaGreat
