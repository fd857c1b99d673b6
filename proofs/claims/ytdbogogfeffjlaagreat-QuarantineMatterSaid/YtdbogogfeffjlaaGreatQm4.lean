/- Part 4. -/
import Derived.Test.YtdbogogfeffjlaaGreatQm3
namespace Go.Proofs.YtdbogogfeffjlaaGreat
set_option linter.unusedVariables false
set_option linter.unusedSimpArgs false
set_option maxRecDepth 100000
open Go.RowKit
open St1 St2 St3 St4 St5 St6 St7 St8 StA StB
theorem a2X (i n:Int):a9 Tryz.prog 198 [a7 .i64 i,a7 .i64 n] [] (f5 (idx i n)) []:=by
 (refine ac Tryz.func198 ?_;(conv=>whnf);repeat (refine zy ?_;conv=>whnf))
 repeat' (first|refine zz ?_|refine zd ?_ ?_<;>intro h<;>try omega|refine zy ?_|fail)<;>conv=>whnf
 all_goals (refine b9 ?_;simp only [idx];simp;omega)
theorem a4k (n lo hi:Int):a9 Tryz.prog 134 [a7 .i64 n,a7 .i64 lo,a7 .i64 hi] [] (f5 (btw n lo hi)) []:=by
 (refine ac Tryz.func134 ?_;(conv=>whnf);repeat (refine zy ?_;conv=>whnf))
 repeat' (first|refine zz ?_|refine zd ?_ ?_<;>intro h<;>try omega|refine zy ?_|fail)<;>conv=>whnf
 all_goals (refine b9 ?_;simp only [btw];simp;omega)
def aZ3 (p:Int × Int):List T:=[ti p.1,ti p.2]
def af8 (e:Ev):List (Int × Int):=[(e.mats,6),(e.hhs,100),(e.scs,30),(e.places.length,100),(e.moves.length,200),(e.certs.length,100),(e.recalls.length,30),(e.purities.length,200)]
theorem an5 (e:Ev):a1j e=(af8 e).any fun p=>decide (p.2<p.1):=by
 rw [Bool.eq_iff_iff]
 simp [a1j,af8]
 omega
set_option maxRecDepth 100000 in
theorem b7Z (e:Ev) (hs:e.Sized):a9 Tryz.prog 124 [evS e] [] (f5 (a1j e)) []:=by
 (refine ac Tryz.func124 ?_;(conv=>whnf);repeat (refine zy ?_;conv=>whnf))
 have hl:(af8 e).length=8:=rfl
 refine d6 c8 (fun k=>([J,J,J,J,J,J,J,J,J,J,J,J,J,J,J,J,J,J,J,J,J,J,J,J,J,J,J,J,J,J,J,J,J,J,S.c (C.t (T.sl 2 .full ((af8 e).map aZ3))),a7 .i64 8,a7 .i64 k,J,J,J,J,J,J,J,J,J],[])) 8 (fun k=>((af8 e).take k).any (fun p=>decide (p.2<p.1))=false) [] rfl
  ⟨rfl,rfl,trivial,⟨g9 (by simp [af8,aZ3]),rfl,rfl,trivial⟩⟩ ?_
 intro k hk hI
 conv=>whnf
 repeat' (first|refine zz ?_|refine zd ?_ ?_<;>intro h<;>try omega|refine zy ?_|fail)<;>conv=>whnf
 ·have hlt:k<8:=by omega
  refine b8 (lg0 (hl ▸ hlt)) ?_
  conv=>whnf
  repeat' (first|refine zz ?_|refine zd ?_ ?_<;>intro h<;>try omega|refine zy ?_|fail)<;>conv=>whnf
  ·refine b9 ?_
   rw [an5,a34 (lg0 (hl ▸ hlt))]
   simpa using ‹_ > _›
  ·refine ⟨hlt,?_,[],rfl,rfl,trivial,⟨rfl,rfl,rfl,trivial⟩⟩
   rw [a05 (lg0 (hl ▸ hlt)),hI]
   have h:=‹¬ _ > _›
   simp;omega
 ·refine b9 ?_
  rw [an5,←hI,lg4 (by omega)]
theorem b3B (e:Ev) (hs:e.Sized):a9 Tryz.prog 125 [evS e] [] (f5 (e.places.all (S1 e))) []:=by
 have l1:=hs.s1
 have l2:(e.places.map C8.row).length=e.places.length:=by simp
 (refine ac Tryz.func125 ?_;(conv=>whnf);repeat (refine zy ?_;conv=>whnf))
 refine d6 c8 (fun k=>([J,S.c (C.ptr 0 0 0),J,J,J,J,S.c (C.t (a0D e.places)),a7 .i64 e.places.length,a7 .i64 k,J,J,J,J,J,J,J,J,J,J,J,J,J,J,J,J,J,J,J,J,J,J,J,J,J,J,J,J,J,J,J,J,J,J,J,J],[evB e])) e.places.length (fun k=>(e.places.take k).all (S1 e)=true) [some 0] rfl
  ⟨rfl,rfl,⟨⟨rfl,rfl,rfl,.inl ⟨rfl,j4 e⟩⟩,trivial⟩,⟨⟨rfl,rfl,rfl⟩,g9 rfl,c6 (by simp),c6 rfl,trivial⟩⟩ ?_
 intro k hk hI
 conv=>whnf
 repeat' (first|refine zz ?_|refine zd ?_ ?_<;>intro h<;>try omega|refine zy ?_|fail)<;>conv=>whnf
 ·have hlt:k<e.places.length:=by omega
  obtain ⟨x,hx⟩:∃x,e.places[k]? =some x:=⟨_,lg0 hlt⟩
  refine b8 hx ?_
  conv=>whnf
  repeat' (first|refine zz ?_|refine qp (a2X _ _) ?_|refine zd ?_ ?_<;>intro h<;>try omega|refine zy ?_|fail)<;>conv=>whnf
  all_goals first
   |(refine ⟨hlt,?_,[some 0],rfl,rfl,⟨⟨rfl,rfl,rfl,.inl ⟨rfl,j4 e⟩⟩,trivial⟩,⟨⟨rfl,rfl,rfl⟩,rfl,rfl,rfl,trivial⟩⟩;rw [p7 hx,hI];simp_all [S1];done)
   |(refine b9 ?_;rw [u9 hx];simp_all [S1];done)
 ·refine b9 ?_
  rw [← hI,lg4 (by omega)]
theorem a4I {e:Ev} {i:Int} (h:idx i e.places.length=true):0<=i∧∃x,e.places[i.toNat]? =some x∧m9 e i=x.kind:=by
 have h':=ap2.1 h
 have hlt:i.toNat<e.places.length:=by omega
 refine ⟨h'.1,_,lg0 hlt,?_⟩
 unfold m9
 rw [lg0 hlt];rfl
theorem b7N (e:Ev) (m:p6) (hs:e.Sized):a9 Tryz.prog 126 [evS e,b97 m] [] (f5 (D2 e m)) []:=by
 have l1:=hs.s1
 have l2:(e.places.map C8.row).length=e.places.length:=by simp
 by_cases h1:idx m.src e.places.length=true
 ·obtain ⟨hs0,x,hx,kx⟩:=a4I h1
  by_cases h2:idx m.dst e.places.length=true
  ·obtain ⟨hd0,y,hy,ky⟩:=a4I h2
   (refine ac Tryz.func126 ?_;(conv=>whnf);repeat (refine zy ?_;conv=>whnf))
   rw [← l2] at h1 h2
   repeat' (first|refine zz ?_|refine qp (a2X _ _) ?_|refine qp (a4k _ _ _) ?_|refine p4 hs0 hx ?_|refine p4 hd0 hy ?_|refine zd ?_ ?_<;>intro h<;>try omega|refine zy ?_|fail)<;>conv=>whnf
   all_goals (refine b9 ?_;simp_all [D2];done)
  ·(refine ac Tryz.func126 ?_;(conv=>whnf);repeat (refine zy ?_;conv=>whnf))
   rw [← l2] at h1 h2
   repeat' (first|refine zz ?_|refine qp (a2X _ _) ?_|refine zd ?_ ?_<;>intro h<;>try omega|refine zy ?_|fail)<;>conv=>whnf
   all_goals first|(exfalso;simp_all;done)|(refine b9 ?_;simp_all [D2];done)
 ·(refine ac Tryz.func126 ?_;(conv=>whnf);repeat (refine zy ?_;conv=>whnf))
  rw [← l2] at h1
  repeat' (first|refine zz ?_|refine qp (a2X _ _) ?_|refine zd ?_ ?_<;>intro h<;>try omega|refine zy ?_|fail)<;>conv=>whnf
  all_goals first|(exfalso;simp_all;done)|(refine b9 ?_;simp_all [D2];done)
theorem b7M (e:Ev) (hs:e.Sized):a9 Tryz.prog 127 [evS e] [] (f5 (T7 e)) []:=by
 have l1:=hs.s3
 have l2:(e.certs.map G5.row).length=e.certs.length:=by simp
 have l3:=hs.s4
 have l4:(e.recalls.map z4.row).length=e.recalls.length:=by simp
 have l5:=hs.s5
 have l6:(e.purities.map a0p.row).length=e.purities.length:=by simp
 have l7:=hs.s2
 have l8:(e.moves.map p6.row).length=e.moves.length:=by simp
 (refine ac Tryz.func127 ?_;(conv=>whnf);repeat (refine zy ?_;conv=>whnf))
 refine d6 c8 (fun k=>([J,S.c (C.ptr 0 0 0),J,J,J,J,J,J,J,J,J,S.c (C.t (W5 e.certs)),a7 .i64 e.certs.length,a7 .i64 k,J,J,J,J,J,J,J,J,J,J,J,J,J,J,J,J,J,J,J,J,J,J,J,J,J,J,J,J,J,J,J,J,J,J,J,J,J,J,J,J,J,J,J,J,J,J,J,J,J,J,J,J,J,J,J,J,J,J,J,J,J,J,J,J,J,J,J,J,J,J,J,J,J,J,J,J,J,J,J,J,J,J,J,J,J,J,J,J,J,J,J,J,J,J,J,J,J,J,J,J,J,J,J,J,J,J,J],[evB e])) e.certs.length (fun k=>(e.certs.take k).all (a2E e)=true) [some 0] rfl
  ⟨rfl,rfl,⟨⟨rfl,rfl,rfl,.inl ⟨rfl,j4 e⟩⟩,trivial⟩,⟨⟨rfl,rfl,rfl⟩,g9 rfl,c6 (by simp),c6 rfl,trivial⟩⟩ ?_
 intro k hk hI
 conv=>whnf
 repeat' (first|refine zz ?_|refine zd ?_ ?_<;>intro h<;>try omega|refine zy ?_|fail)<;>conv=>whnf
 ·have hlt:k<e.certs.length:=by omega
  obtain ⟨x,hx⟩:∃x,e.certs[k]? =some x:=⟨_,lg0 hlt⟩
  refine b8 hx ?_
  conv=>whnf
  repeat' (first|refine zz ?_|refine qp (a2X _ _) ?_|refine qp (a4k _ _ _) ?_|refine zd ?_ ?_<;>intro h<;>try omega|refine zy ?_|fail)<;>conv=>whnf
  all_goals first
   |(refine ⟨hlt,?_,[some 0],rfl,rfl,⟨⟨rfl,rfl,rfl,.inl ⟨rfl,j4 e⟩⟩,trivial⟩,⟨⟨rfl,rfl,rfl⟩,rfl,rfl,rfl,trivial⟩⟩;rw [p7 hx,hI];simp_all [a2E];done)
   |(refine b9 ?_;rw [T7,u9 hx];rfl;simp_all [a2E];(try omega);done)
 ·have hc:e.certs.all (a2E e)=true:=by rw [← hI,lg4 (by omega)]
  clear hI h hk
  refine d6 c8 (fun k=>([J,S.c (C.ptr 0 0 0),J,J,J,J,J,J,J,J,J,J,J,J,J,J,J,J,J,J,J,J,J,J,J,J,J,J,J,J,J,J,J,J,J,J,J,J,J,J,J,J,J,J,J,J,J,J,J,J,J,J,J,J,J,J,J,J,J,J,J,J,S.c (C.t (G1 e.recalls)),a7 .i64 e.recalls.length,a7 .i64 k,J,J,J,J,J,J,J,J,J,J,J,J,J,J,J,J,J,J,J,J,J,J,J,J,J,J,J,J,J,J,J,J,J,J,J,J,J,J,J,J,J,J,J,J,J,J,J,J,J,J,J,J,J,J,J,J],[evB e])) e.recalls.length (fun k=>(e.recalls.take k).all (W9 e)=true) [some 0] rfl
   ⟨rfl,rfl,⟨⟨rfl,rfl,rfl,.inl ⟨rfl,j4 e⟩⟩,trivial⟩,⟨⟨rfl,rfl,rfl⟩,g9 rfl,c6 (by simp),c6 rfl,trivial⟩⟩ ?_
  intro k hk hI
  conv=>whnf
  repeat' (first|refine zz ?_|refine zd ?_ ?_<;>intro h<;>try omega|refine zy ?_|fail)<;>conv=>whnf
  ·have hlt:k<e.recalls.length:=by omega
   obtain ⟨x,hx⟩:∃x,e.recalls[k]? =some x:=⟨_,lg0 hlt⟩
   refine b8 hx ?_
   conv=>whnf
   repeat' (first|refine zz ?_|refine qp (a2X _ _) ?_|refine qp (a4k _ _ _) ?_|refine zd ?_ ?_<;>intro h<;>try omega|refine zy ?_|fail)<;>conv=>whnf
   all_goals first
    |(refine ⟨hlt,?_,[some 0],rfl,rfl,⟨⟨rfl,rfl,rfl,.inl ⟨rfl,j4 e⟩⟩,trivial⟩,⟨⟨rfl,rfl,rfl⟩,rfl,rfl,rfl,trivial⟩⟩;rw [p7 hx,hI];simp_all [W9];done)
    |(refine b9 ?_;rw [T7,hc,u9 hx];rfl;simp_all [W9];done)
  ·have hr:e.recalls.all (W9 e)=true:=by rw [← hI,lg4 (by omega)]
   clear hI h hk
   refine d6 c8 (fun k=>([J,S.c (C.ptr 0 0 0),J,J,J,J,J,J,J,J,J,J,J,J,J,J,J,J,J,J,J,J,J,J,J,J,J,J,J,J,J,J,J,J,J,J,J,J,J,J,J,J,J,J,J,J,J,J,J,J,J,J,J,J,J,J,J,J,J,J,J,J,J,J,J,J,J,J,J,J,J,J,J,J,J,J,J,J,J,J,J,J,S.c (C.t (Z7 e.purities)),a7 .i64 e.purities.length,a7 .i64 k,J,J,J,J,J,J,J,J,J,J,J,J,J,J,J,J,J,J,J,J,J,J,J,J,J,J,J,J,J,J,J,J,J,J,J,J],[evB e])) e.purities.length (fun k=>(e.purities.take k).all (W8 e)=true) [some 0] rfl
    ⟨rfl,rfl,⟨⟨rfl,rfl,rfl,.inl ⟨rfl,j4 e⟩⟩,trivial⟩,⟨⟨rfl,rfl,rfl⟩,g9 rfl,c6 (by simp),c6 rfl,trivial⟩⟩ ?_
   intro k hk hI
   conv=>whnf
   repeat' (first|refine zz ?_|refine zd ?_ ?_<;>intro h<;>try omega|refine zy ?_|fail)<;>conv=>whnf
   ·have hlt:k<e.purities.length:=by omega
    obtain ⟨x,hx⟩:∃x,e.purities[k]? =some x:=⟨_,lg0 hlt⟩
    refine b8 hx ?_
    conv=>whnf
    repeat' (first|refine zz ?_|refine qp (a2X _ _) ?_|refine qp (a4k _ _ _) ?_|refine zd ?_ ?_<;>intro h<;>try omega|refine zy ?_|fail)<;>conv=>whnf
    all_goals first
     |(refine ⟨hlt,?_,[some 0],rfl,rfl,⟨⟨rfl,rfl,rfl,.inl ⟨rfl,j4 e⟩⟩,trivial⟩,⟨⟨rfl,rfl,rfl⟩,rfl,rfl,rfl,trivial⟩⟩;rw [p7 hx,hI];simp_all [W8];done)
     |(refine b9 ?_;rw [T7,hc,hr,u9 hx];rfl;simp_all [W8];(try omega);done)
   ·have hp:e.purities.all (W8 e)=true:=by rw [← hI,lg4 (by omega)]
    refine b9 ?_
    rw [T7,hc,hr,hp];rfl
def a2d (e:Ev):Nat->Int
 |0=>0
 |k+1=>((e.moves[k]?).map (·.day)).getD 0
theorem a0O {e:Ev} {k:Nat} {m:p6} (h:e.moves[k]? =some m):a2d e (k+1)=m.day:=by simp [a2d,h]
theorem X0 {α:Type} {l:List α} {k:Nat} {x:α} (h:l[k]? =some x):l.drop k=x::l.drop (k+1):=by
 obtain ⟨h1,h2⟩:=lg1 h
 rw [List.drop_eq_getElem_cons h1,h2]
theorem b5D (e:Ev) (hs:e.Sized):a9 Tryz.prog 58 [evS e] [] (a7 .i64 (z6 e)) []:=by
 have l7:=hs.s2
 have l8:(e.moves.map p6.row).length=e.moves.length:=by simp
 (refine ac Tryz.func58 ?_;(conv=>whnf);repeat (refine zy ?_;conv=>whnf))
 repeat' (first|refine zz ?_|refine qp (b7Z _ hs) ?_|refine qp (b3B _ hs) ?_|refine zd ?_ ?_<;>intro h<;>try omega|refine zy ?_|fail)<;>conv=>whnf
 case refine_2.refine_2.refine_2.refine_2.refine_1 hf h1 h2 h3=>
  have h4:=h
  clear h
  have hpre:¬(e.mats<1∨e.hhs<0∨e.scs<0∨e.places.all (S1 e)=false):=by
   rintro (h|h|h|h)
   ·omega
   ·omega
   ·omega
   ·rw [h4] at h;cases h
  have hck:z6 e=if u6 e 0 e.moves≠0 then u6 e 0 e.moves else if T7 e then 0 else 1:=by
   unfold z6;rw [if_neg (by simp [hf]),if_neg hpre]
  refine d6 c8 (fun k=>([J,S.c (C.ptr 0 0 0),J,a7 .i64 (a2d e k),J,J,J,J,J,J,J,J,J,J,J,J,J,J,J,J,J,J,J,J,J,J,J,J,J,S.c (C.t (a0J e.moves)),a7 .i64 e.moves.length,a7 .i64 k,J,J,J,J,J,J,J,J,J,J,J,J,J,J,J,J,J,J,J,J,J,J],[evB e])) e.moves.length (fun k=>u6 e 0 e.moves=u6 e (a2d e k) (e.moves.drop k)) [some 0] rfl
   ⟨rfl,rfl,⟨⟨rfl,rfl,rfl,.inl ⟨rfl,j4 e⟩⟩,trivial⟩,⟨⟨rfl,rfl,rfl⟩,c6 rfl,g9 rfl,c6 (by simp),c6 rfl,trivial⟩⟩ ?_
  intro k hk hI
  conv=>whnf
  repeat' (first|refine zz ?_|refine zd ?_ ?_<;>intro h<;>try omega|refine zy ?_|fail)<;>conv=>whnf
  ·have hlt:k<e.moves.length:=by omega
   obtain ⟨x,hx⟩:∃x,e.moves[k]? =some x:=⟨_,lg0 hlt⟩
   rw [X0 hx,u6] at hI
   refine b8 hx ?_
   conv=>whnf
   repeat' (first|refine zz ?_|refine qp (b7N _ x hs) ?_|refine zd ?_ ?_<;>intro h<;>try omega|refine zy ?_|fail)<;>conv=>whnf
   all_goals first
    |(refine ⟨hlt,?_,[some 0],rfl,rfl,⟨⟨rfl,rfl,rfl,.inl ⟨rfl,j4 e⟩⟩,trivial⟩,⟨⟨rfl,rfl,rfl⟩,?_,rfl,rfl,rfl,trivial⟩⟩
      ·rw [a0O hx,hI,if_neg (by omega),if_pos (by assumption)]
      ·rw [a0O hx];exact rfl)
    |(have e1:u6 e 0 e.moves=17:=by rw [hI,if_pos (by omega)]
      refine i6 ?_;rw [hck,e1];rfl)
    |(have e1:u6 e 0 e.moves=1:=by rw [hI,if_neg (by omega),if_neg (by simp_all)]
      refine i6 ?_;rw [hck,e1];rfl)
  ·rw [List.drop_eq_nil_of_le (by omega),u6] at hI
   repeat' (first|refine zz ?_|refine qp (b7M _ hs) ?_|refine zd ?_ ?_<;>intro h<;>try omega|refine zy ?_|fail)<;>conv=>whnf
   all_goals (refine i6 ?_;rw [hck,hI];simp_all)
 all_goals (refine i6 ?_;unfold z6;simp_all;try omega)
abbrev bgC (b:Bg):List C:=[.t (ti b.sg),.t (F8 b.dl)]
abbrev bgS (b:Bg):S:=.agg (bgC b)
abbrev bgB (b:Bg):Blk:={ mode:=.live,elem:=81,size:=2,rows:=[bgC b],box:=true }
theorem a47 (b:Bg):G4 [bgC b]:=by
 intro r hr c hc
 simp at hr
 subst hr
 simp [bgC] at hc
 rcases hc with rfl|rfl<;>rfl
theorem s7 {l:List Int} {i:Nat} (h:i<l.length):l[i]? =some (dat l i):=by
 unfold dat;rw [lg3,lg0 h];rfl
theorem a6h {l:List Int} (h:0<l.length):l[((l.length:Int) - 1).toNat]? =some (dat l (l.length - 1)):=by
 rw [show ((l.length:Int) - 1).toNat=l.length - 1 by omega];exact s7 (by omega)
theorem a0M {l:List Int} {n:Nat} (h:0<n) (hn:n<=l.length):l[((n:Int) - 1).toNat]? =some (dat l (n - 1)):=by
 rw [show ((n:Int) - 1).toNat=n - 1 by omega];exact s7 (by omega)
theorem a1Z (b:Bg) (hl:b.dl.length<=1000000):a9 Tryz.prog 135 [bgS b] [] (f5 (G0 b)) []:=by
 have l2:(b.dl.map d9).length=b.dl.length:=by simp
 (refine ac Tryz.func135 ?_;(conv=>whnf);repeat (refine zy ?_;conv=>whnf))
 repeat' (first|refine zz ?_|refine zd ?_ ?_<;>intro h<;>try omega|refine zy ?_|fail)<;>conv=>whnf
 refine d6 c8 (fun k=>([J,S.c (C.ptr 0 0 0),J,a7 .i64 b.dl.length,J,J,J,J,J,J,d8 b.dl,a7 .i64 b.dl.length,a7 .i64 k,J,J,J,J,J,J,J,J,J,J,J,J,J,J,J,J,J,J,J,J,J,J,J,J,J,J,J,J,J,J,J,J],[bgB b])) b.dl.length (fun k=>(b.dl.take k).all inD=true) [some 0] rfl
  ⟨rfl,rfl,⟨⟨rfl,rfl,rfl,.inl ⟨rfl,a47 b⟩⟩,trivial⟩,⟨⟨rfl,rfl,rfl⟩,c6 (by simp),g9 rfl,c6 (by simp),c6 rfl,trivial⟩⟩ ?_
 intro k hk hI
 conv=>whnf
 repeat' (first|refine zz ?_|refine b8 (s7 (by omega)) ?_|refine p4 (by omega) (a6h (by omega)) ?_|refine zd ?_ ?_<;>intro h<;>try omega|refine zy ?_|fail)<;>conv=>whnf
 all_goals first
  |(have hlt:k<b.dl.length:=by omega
    refine ⟨hlt,?_,[some 0],rfl,rfl,⟨⟨rfl,rfl,rfl,.inl ⟨rfl,a47 b⟩⟩,trivial⟩,⟨⟨rfl,rfl,rfl⟩,rfl,rfl,rfl,rfl,trivial⟩⟩;rw [p7 (s7 hlt),hI];simp [inD];omega)
  |(have hlt:k<b.dl.length:=by omega
    refine b9 ?_;unfold G0;rw [u9 (s7 hlt) (by simp [inD];omega)];rfl)
  |(have ha:b.dl.all inD=true:=by rw [← hI,lg4 (by omega)]
    refine b9 ?_;unfold G0;rw [ha];simp_all;done)
theorem a36 (l:List Int) (hl:l.length<=1000000):a9 Tryz.prog 265 [d8 l] [] (d8 (E3 l)) []:=by
 have l2:(l.map d9).length=l.length:=by simp
 (refine ac Tryz.func265 ?_;(conv=>whnf);repeat (refine zy ?_;conv=>whnf))
 repeat' (first|refine zz ?_|refine zd ?_ ?_<;>intro h<;>try omega|refine zy ?_|fail)<;>conv=>whnf
 refine k8 c8 (σ:=Nat) (fun n=>([d8 l,J,J,a7 .i64 n,J,J,J,J,J,J,J,J,J,J,J,J,J,J,J,J,J],[])) (fun n=>n<=l.length∧∀j x,n<=j->l[j]? =some x->x=0) (fun n=>n) l.length []
  ⟨Nat.le_refl _,fun j x hj hx=>by rw [List.getElem?_eq_none hj] at hx;cases hx⟩ ⟨rfl,rfl,trivial,⟨g9 rfl,c6 (by simp),trivial⟩⟩ ?_
 rintro n ⟨hn,hz⟩
 have hn:n<=l.length:=hn
 conv=>whnf
 repeat' (first|refine zz ?_|refine p4 (by omega) (a0M (by omega) hn) ?_|refine a3s (by omega) (by omega) (by omega) ?_|refine zd ?_ ?_<;>intro h<;>try omega|refine zy ?_|fail)<;>conv=>whnf
 ·have h0:dat l (n - 1)=0:=by assumption
  have h1:0<n:=by omega
  refine ⟨[],n - 1,⟨rfl,rfl,trivial,⟨rfl,c6 (by omega),trivial⟩⟩,⟨by omega,fun j x hj hxj=>?_⟩,by show n - 1<n;omega⟩
  by_cases hj2:j=n - 1
  ·subst hj2;rw [s7 (by omega)] at hxj;injection hxj with hx;rw [← hx];exact h0
  ·exact hz j x (by omega) hxj
 all_goals
  have e:l.take n=E3 l:=a35 hz (fun x h0 hx=>by
   first
    |omega
    |(rw [s7 (by omega)] at hx;injection hx with hx;rw [← hx];assumption)) hn
  refine b8a ?_ rfl
  rw [← e]
  simp [List.map_take]
theorem b6p (l:List Int) (hl:l.length<=1000000):a9 Tryz.prog 265 [a0m 0 l] [o4 l] (.c (.own 0 0 (E3 l).length true)) [o4 l]:=by
 (refine ac Tryz.func265 ?_;(conv=>whnf);repeat (refine zy ?_;conv=>whnf))
 repeat' (first|refine zz ?_|refine zd ?_ ?_<;>intro h<;>try omega|refine zy ?_|fail)<;>conv=>whnf
 refine k8 c8 (σ:=Nat) (fun n=>([a0m 0 l,J,J,a7 .i64 n,J,J,J,J,J,J,J,J,J,J,J,J,J,J,J,J,J],[o4 l])) (fun n=>n<=l.length∧∀j x,n<=j->l[j]? =some x->x=0) (fun n=>n) l.length [some 0]
  ⟨Nat.le_refl _,fun j x hj hx=>by rw [List.getElem?_eq_none hj] at hx;cases hx⟩ ⟨rfl,rfl,⟨a8 rfl rfl rfl rfl rfl,trivial⟩,⟨j9 rfl rfl,c6 rfl,trivial⟩⟩ ?_
 rintro n ⟨hn,hz⟩
 have hn:n<=l.length:=hn
 have hg:0<n->l[0+((n:Int) - 1).toNat]? =some (dat l (n - 1)):=fun h=>by rw [Nat.zero_add];exact a0M h hn
 conv=>whnf
 repeat' (first|refine zz ?_|refine j6 (hg (by omega)) ?_|refine a3s (by omega) (by omega) (by omega) ?_|refine zd ?_ ?_<;>intro h<;>try omega|refine zy ?_|fail)<;>conv=>whnf
 ·have h0:dat l (n - 1)=0:=by assumption
  have h1:0<n:=by omega
  refine ⟨[some 0],n - 1,⟨rfl,rfl,⟨a8 rfl rfl rfl rfl rfl,trivial⟩,⟨j9 rfl rfl,c6 (by omega),trivial⟩⟩,⟨by omega,fun j x hj hxj=>?_⟩,by show n - 1<n;omega⟩
  by_cases hj2:j=n - 1
  ·subst hj2;rw [s7 (by omega)] at hxj;injection hxj with hx;rw [← hx];exact h0
  ·exact hz j x (by omega) hxj
 all_goals
  have e:l.take n=E3 l:=a35 hz (fun x h0 hx=>by
   first
    |omega
    |(rw [s7 (by omega)] at hx;injection hx with hx;rw [← hx];assumption)) hn
  have e2:(E3 l).length=n:=by rw [← e];simp;omega
  exact ⟨⟨[some 0],rfl,rfl,⟨a8 rfl rfl rfl rfl rfl,trivial⟩,⟨rfl,rfl,by rw [e2];omega,fun h=>h⟩⟩⟩
theorem ap4 {n:Nat} {K:Prop} (h:0<n) (k:K):0<n∧K:=⟨h,k⟩
theorem a8q (l:List Int) (hl:l.length<=1000000):a9 Tryz.prog 207 [d8 l] [] (d8 l) []:=by
 have l2:(l.map d9).length=l.length:=by simp
 cases l with
 |nil=>
  refine am3 0 rfl ?_ ?_
  ·(refine ac Tryz.func207 ?_;(conv=>whnf);repeat (refine zy ?_;conv=>whnf))
   repeat' (first|refine zz ?_|refine zd ?_ ?_<;>intro h<;>try omega|refine zy ?_|fail)<;>conv=>whnf
   exact k5 (show a8c [] _ _ _ from rfl)
  ·(refine ac Tryz.func207 ?_;(conv=>whnf);repeat (refine zy ?_;conv=>whnf))
   repeat' (first|refine zz ?_|refine qp toC ?_|refine ap4 (by simp) ?_|refine sl3_ok (by omega) (by omega) rfl (by omega) ?_|refine a6x rfl (by simp [toC]) ?_|refine zd ?_ ?_<;>intro h<;>try omega|refine zy ?_|fail)<;>conv=>whnf
   exact Q3 rfl (by intro h;cases h) rfl rfl (by simp [toC])
 |cons a r=>
  (refine ac Tryz.func207 ?_;(conv=>whnf);repeat (refine zy ?_;conv=>whnf))
  repeat' (first|refine zz ?_|refine qp toC ?_|refine ap4 (by simp) ?_|refine sl3_ok (by omega) (by omega) rfl (by omega) ?_|refine a6x rfl (by simp [toC] at *;omega) ?_|refine zd ?_ ?_<;>intro h<;>try omega|refine zy ?_|fail)<;>conv=>whnf
  exact Q3 rfl (by intro h;cases h) rfl rfl (by simp [toC])
theorem b4e (l:List Int) (hl:l.length<=1000000):a9 Tryz.prog 207 [d8 l] [] (a0m 0 l) [o4 l]:=by
 have l2:(l.map d9).length=l.length:=by simp
 cases l with
 |nil=>
  refine am3 0 rfl ?_ ?_
  ·(refine ac Tryz.func207 ?_;(conv=>whnf);repeat (refine zy ?_;conv=>whnf))
   repeat' (first|refine zz ?_|refine zd ?_ ?_<;>intro h<;>try omega|refine zy ?_|fail)<;>conv=>whnf
   exact ⟨⟨[none],rfl,rfl,⟨⟨rfl,rfl⟩,trivial⟩,⟨rfl,rfl,rfl⟩⟩⟩
  ·(refine ac Tryz.func207 ?_;(conv=>whnf);repeat (refine zy ?_;conv=>whnf))
   repeat' (first|refine zz ?_|refine qp toC ?_|refine ap4 (by simp) ?_|refine sl3_ok (by omega) (by omega) rfl (by omega) ?_|refine a6x rfl (by simp [toC]) ?_|refine zd ?_ ?_<;>intro h<;>try omega|refine zy ?_|fail)<;>conv=>whnf
   exact ⟨⟨[some 0],rfl,rfl,⟨a8 rfl rfl rfl rfl rfl,trivial⟩,⟨rfl,rfl,by simp [toC],fun h=>h⟩⟩⟩
 |cons a r=>
  (refine ac Tryz.func207 ?_;(conv=>whnf);repeat (refine zy ?_;conv=>whnf))
  repeat' (first|refine zz ?_|refine qp toC ?_|refine ap4 (by simp) ?_|refine sl3_ok (by omega) (by omega) rfl (by omega) ?_|refine a6x rfl (by simp [toC] at *;omega) ?_|refine zd ?_ ?_<;>intro h<;>try omega|refine zy ?_|fail)<;>conv=>whnf
  exact ⟨⟨[some 0],rfl,rfl,⟨a8 rfl rfl rfl rfl rfl,trivial⟩,⟨rfl,rfl,by simp [toC],fun h=>h⟩⟩⟩
theorem b4X (x:Int):a9 Tryz.prog 268 [a7 .i64 x] [] (f5 false) []:=by
 (refine ac Tryz.func268 ?_;(conv=>whnf);repeat (refine zy ?_;conv=>whnf))
 repeat' (first|refine zz ?_|refine zd ?_ ?_<;>intro h<;>try omega|refine zy ?_|fail)<;>conv=>whnf
 all_goals first
  |omega
  |exact b9 rfl
def J8 (x y:Int):Int:=if x<y then -1 else if x > y then 1 else 0
theorem a2T (x y:Int):a9 Tryz.prog 211 [a7 .i64 x,a7 .i64 y] [] (a7 .i64 (J8 x y)) []:=by
 (refine ac Tryz.func211 ?_;(conv=>whnf);repeat (refine zy ?_;conv=>whnf))
 repeat' (first|refine zz ?_|refine qp (b4X _) ?_|refine zd ?_ ?_<;>intro h<;>try omega|refine zy ?_|fail)<;>conv=>whnf
 all_goals first
  |(exfalso;simp_all;done)
  |(refine i6 ?_;unfold J8;split<;>first|omega|(split<;>omega))
theorem a2U (x y:Int):a9 Tryz.prog 214 [.c (.t (.sl 1 .full ([x,y].map d9)))] [] (a7 .i64 (if x=0 then y else x)) []:=by
 (refine ac Tryz.func214 ?_;(conv=>whnf);repeat (refine zy ?_;conv=>whnf))
 repeat' (first|refine zz ?_|refine zd ?_ ?_<;>intro h<;>try omega|refine zy ?_|fail)<;>conv=>whnf
 refine d6 c8 (fun k=>([J,J,J,a7 .i64 0,J,J,S.c (C.t (T.sl 1 .full ([x,y].map d9))),a7 .i64 2,a7 .i64 k,J,J,J,J,J,J,J,J,J],[])) 2 (fun k=>∀v ∈ [x,y].take k,v=0) [] (by simp)
  ⟨rfl,rfl,trivial,⟨rfl,g9 rfl,c6 rfl,c6 rfl,trivial⟩⟩ ?_
 intro k hk hI
 conv=>whnf
 repeat' (first|refine zz ?_|refine zd ?_ ?_<;>intro h<;>try omega|refine zy ?_|fail)<;>conv=>whnf
 ·have hlt:k<2:=by omega
  obtain ⟨v,hv⟩:∃v,[x,y][k]? =some v:=⟨_,lg0 (by simpa using hlt)⟩
  refine b8 hv ?_
  conv=>whnf
  repeat' (first|refine zz ?_|refine zd ?_ ?_<;>intro h<;>try omega|refine zy ?_|fail)<;>conv=>whnf
  ·refine i6 ?_
   match k,hlt with
   |0,_=>simp at hv;subst hv;rw [if_neg (by assumption)]
   |1,_=>simp at hv;subst hv;rw [if_pos (hI x (by simp))]
  ·refine ⟨hlt,?_,[],rfl,rfl,trivial,⟨rfl,rfl,rfl,rfl,trivial⟩⟩
   intro u hu
   rw [List.take_add_one,hv] at hu
   rcases List.mem_append.1 hu with hu|hu
   ·exact hI u hu
   ·simp at hu;subst hu;omega
 ·have h1:=hI x (by rw [lg4 (by simp;omega)];simp)
  have h2:=hI y (by rw [lg4 (by simp;omega)];simp)
  refine i6 ?_
  rw [if_pos h1,h2]
def sgn (s:Int) (l:List Int):Bg:=if (E3 l).length=0 then ⟨0,[]⟩ else ⟨s,E3 l⟩
theorem ay8 (s:Int) (l:List Int) (hl:l.length<=1000000):a9 Tryz.prog 209 [a7 .i64 s,d8 l] [] (bgS (sgn s l)) []:=by
 (refine ac Tryz.func209 ?_;(conv=>whnf);repeat (refine zy ?_;conv=>whnf))
 repeat' (first|refine zz ?_|refine qp (a36 l hl) ?_|refine zd ?_ ?_<;>intro h<;>try omega|refine zy ?_|fail)<;>conv=>whnf
 ·have h0:(E3 l).length=0:=by simp at *;assumption
  unfold sgn
  rw [if_pos h0]
  exact k5 ⟨rfl,rfl,trivial⟩
 ·have h0:¬(E3 l).length=0:=by simp at *;assumption
  unfold sgn
  rw [if_neg h0]
  exact k5 ⟨rfl,rfl,trivial⟩
theorem F5 (r:Bool) (b:Bg):a9 Tryz.prog 206 [f5 r,bgS b] [] (.tup [bgS (if r then b else ⟨0,[]⟩),a7 .i64 (if r then 0 else 1)]) []:=by
 cases r<;>
 ·(refine ac Tryz.func206 ?_;(conv=>whnf);repeat (refine zy ?_;conv=>whnf))
  repeat' (first|refine zz ?_|refine zd ?_ ?_<;>intro h<;>try omega|refine zy ?_|fail)<;>conv=>whnf
  exact k5 ⟨⟨rfl,rfl,trivial⟩,rfl,trivial⟩
theorem a2H {x y:Int} (h:x<y):J8 x y=-1:=by unfold J8;rw [if_pos h]
theorem a8n {x y:Int} (h:y<x):J8 x y=1:=by unfold J8;rw [if_neg (by omega),if_pos h]
theorem b5R {x y:Int} (h:x=y):J8 x y=0:=by unfold J8;rw [if_neg (by omega),if_neg (by omega)]
theorem aK7 {s:Int} {l:List Int} (h:Okd l) (hs:s=1∨s=-1∨val l=0):sgn s l=bz (s*val l):=by
 have hv:=t4 h
 unfold sgn bz
 rw [H9 h]
 by_cases h0:val l=0
 ·rw [h0,Int.mul_zero];rfl
 ·have h1:(dg (val l).toNat).length≠0:=by rw [Ne,List.length_eq_zero_iff,N2];omega
  rw [if_neg h1]
  rcases hs with rfl|rfl|h2
  ·rw [Int.sign_eq_one_of_pos (by omega)]
   congr 2;omega
  ·rw [Int.sign_eq_neg_one_of_neg (by omega)]
   congr 2;omega
  ·exact absurd h2 h0
theorem a22 (a b:List Int) (ha:Can a) (hb:Can b) (la:a.length<=1000000) (lb:b.length<=1000000):
 a9 Tryz.prog 212 [d8 a,d8 b] [] (a7 .i64 (J8 (val a) (val b))) []:=by
 have l1:(a.map d9).length=a.length:=by simp
 have l2:(b.map d9).length=b.length:=by simp
 have key:∀{x y:List Int},Can x->Can y->x.length<y.length->val x<val y:=fun {x y} hx hy h=>by
  rw [aM2 hx,aM2 hy] at h
  have:=at8 h
  have:=t4 hx.1
  omega
 by_cases hl:a.length=b.length
 ·(refine ac Tryz.func212 ?_;(conv=>whnf);repeat (refine zy ?_;conv=>whnf))
  repeat' (first|refine zz ?_|refine zd ?_ ?_<;>intro h<;>try omega|refine zy ?_|fail)<;>conv=>whnf
  refine k8 c8 (σ:=Nat) (fun k=>([d8 a,d8 b,J,J,J,a7 .i64 ((k:Int) - 1),J,J,J,J,J,J,J,J,J,J,J,J,J,J,J,J,J,J,J,J,J,J,J,J,J,J,J,J,J,J,J,J,J,J,J],[])) (fun k=>k<=a.length∧a.drop k=b.drop k) (fun k=>k) a.length []
   ⟨Nat.le_refl _,by rw [List.drop_of_length_le (Nat.le_refl _),List.drop_of_length_le (by omega)]⟩ ⟨rfl,rfl,trivial,⟨g9 rfl,g9 rfl,c6 (by simp),trivial⟩⟩ ?_
  rintro k ⟨hk,hd⟩
  have hk:k<=a.length:=hk
  have hd:a.drop k=b.drop k:=hd
  conv=>whnf
  repeat' (first|refine zz ?_|refine qp (a2T _ _) ?_|refine p4 (by omega) (a0M (by omega) hk) ?_|refine p4 (by omega) (a0M (by omega) (hl ▸ hk)) ?_|refine zd ?_ ?_<;>intro h<;>try omega|refine zy ?_|fail)<;>conv=>whnf
  all_goals first
   |(have hp:0<k:=by omega
     have e:k - 1+1=k:=by omega
     have gx:=s7 (l:=a) (i:=k - 1) (by omega)
     have gy:=s7 (l:=b) (i:=k - 1) (by omega)
     refine i6 ?_
     rcases Int.lt_trichotomy (dat a (k - 1)) (dat b (k - 1)) with h|h|h
     ·rw [a2H h,a2H (a82 ha.1 hb.1 hl gx gy (by rw [e];exact hd) h)]
     ·exfalso;simp_all;done
     ·rw [a8n h,a8n (a82 hb.1 ha.1 hl.symm gy gx (by rw [e];exact hd.symm) h)])
   |(have hp:0<k:=by omega
     have hq:dat a (k - 1)=dat b (k - 1):=by omega
     refine ⟨[],k - 1,⟨rfl,rfl,trivial,⟨rfl,rfl,c6 (by omega),trivial⟩⟩,⟨by omega,?_⟩,by show k - 1<k;omega⟩
     rw [List.drop_eq_getElem_cons (by omega:k - 1<a.length),List.drop_eq_getElem_cons (by omega:k - 1<b.length),show k - 1+1=k by omega,hd]
     congr 1
     have gx:=s7 (l:=a) (i:=k - 1) (by omega)
     have gy:=s7 (l:=b) (i:=k - 1) (by omega)
     rw [lg0 (by omega)] at gx gy
     injection gx with gx
     injection gy with gy
     rw [gx,gy,hq])
   |(have:k=0:=by omega
     subst this
     simp only [List.drop_zero] at hd
     refine i6 ?_
     rw [hd,b5R rfl])
 ·(refine ac Tryz.func212 ?_;(conv=>whnf);repeat (refine zy ?_;conv=>whnf))
  repeat' (first|refine zz ?_|refine qp (a2T _ _) ?_|refine zd ?_ ?_<;>intro h<;>try omega|refine zy ?_|fail)<;>conv=>whnf
  all_goals first
   |omega
   |(refine i6 ?_
     rcases Nat.lt_or_gt_of_ne hl with h|h
     ·rw [a2H (by omega),a2H (key ha hb h)]
     ·rw [a8n (by omega),a8n (key hb ha h)])
def b14 (a b:Bg):Int:=if G0 a && G0 b then J8 (bv a) (bv b) else 0
theorem aL9 (x:Int):Can (bz x).dl:=a0V _
theorem aq6 (x:Int):val (bz x).dl=x.natAbs:=k6 _
theorem B2 (x:Int):x.sign=0∧x=0∨x.sign=1∧0<x∨x.sign=-1∧x<0:=by
 rcases Int.lt_trichotomy x 0 with h|h|h
 ·exact .inr (.inr ⟨Int.sign_eq_neg_one_of_neg h,h⟩)
 ·subst h;exact .inl ⟨rfl,rfl⟩
 ·exact .inr (.inl ⟨Int.sign_eq_one_of_pos h,h⟩)
theorem b12 {x y:Int} (h:x.sign≠y.sign):J8 x.sign y.sign=J8 x y:=by
 rcases B2 x with ⟨e,h1⟩|⟨e,h1⟩|⟨e,h1⟩<;>rcases B2 y with ⟨f,h2⟩|⟨f,h2⟩|⟨f,h2⟩<;>rw [e,f] at h ⊢<;>unfold J8<;>(repeat' split)<;>omega
theorem b3Y {x y:Int} (h:x.sign=y.sign):x.sign*J8 x.natAbs y.natAbs=J8 x y:=by
 rcases B2 x with ⟨e,h1⟩|⟨e,h1⟩|⟨e,h1⟩<;>rcases B2 y with ⟨f,h2⟩|⟨f,h2⟩|⟨f,h2⟩<;>rw [e,f] at h<;>try omega
 all_goals (rw [e];unfold J8;(repeat' split)<;>omega)
theorem b4k (x y:Int):-1<=J8 x y∧J8 x y<=1:=by unfold J8;split<;>(try split)<;>omega
theorem ab0 {b:Bg} (h:G0 b=true):∃z,b=bz z:=⟨_,b3q h⟩
theorem aN2 (a b:Bg) (la:a.dl.length<=1000000) (lb:b.dl.length<=1000000):
 a9 Tryz.prog 139 [bgS a,bgS b] [] (a7 .i64 (b14 a b)) []:=by
 have r1:=a1Z a la
 have r2:=a1Z b lb
 cases ha:G0 a with
 |false=>
  rw [ha] at r1
  (refine ac Tryz.func139 ?_;(conv=>whnf);repeat (refine zy ?_;conv=>whnf))
  repeat' (first|refine zz ?_|refine qp r1 ?_|refine qp r2 ?_|refine zd ?_ ?_<;>intro h<;>try omega|refine zy ?_|fail)<;>conv=>whnf
  all_goals (first|(exfalso;simp_all;done)|(refine i6 ?_;unfold b14;rw [ha];rfl))
 |true=>
  rw [ha] at r1
  cases hb:G0 b with
  |false=>
   rw [hb] at r2
   (refine ac Tryz.func139 ?_;(conv=>whnf);repeat (refine zy ?_;conv=>whnf))
   repeat' (first|refine zz ?_|refine qp r1 ?_|refine qp r2 ?_|refine zd ?_ ?_<;>intro h<;>try omega|refine zy ?_|fail)<;>conv=>whnf
   all_goals (first|(exfalso;simp_all;done)|(refine i6 ?_;unfold b14;rw [ha,hb];rfl))
  |true=>
   rw [hb] at r2
   obtain ⟨x,rfl⟩:=ab0 ha
   obtain ⟨y,rfl⟩:=ab0 hb
   have c:=a22 (bz x).dl (bz y).dl (aL9 x) (aL9 y) la lb
   rw [aq6,aq6] at c
   have e:b14 (bz x) (bz y)=J8 x y:=by unfold b14;rw [ha,hb,a3f,a3f];rfl
   rw [e]
   have hr:=b4k x y
   by_cases hs:x.sign=y.sign
   ·have hs':(bz x).sg=(bz y).sg:=hs
    have e2:=b3Y hs
    (refine ac Tryz.func139 ?_;(conv=>whnf);repeat (refine zy ?_;conv=>whnf))
    repeat' (first|refine zz ?_|refine qp r1 ?_|refine qp r2 ?_|refine qp c ?_|refine ⟨_,y9 e2 (by omega) (by omega),?_⟩|refine zd ?_ ?_<;>intro h<;>try omega|refine zy ?_|fail)<;>conv=>whnf
    all_goals first
     |omega
     |(exfalso;simp_all;done)
     |exact i6 rfl
   ·have hs':(bz x).sg≠(bz y).sg:=hs
    (refine ac Tryz.func139 ?_;(conv=>whnf);repeat (refine zy ?_;conv=>whnf))
    repeat' (first|refine zz ?_|refine qp r1 ?_|refine qp r2 ?_|refine qp (a2T _ _) ?_|refine zd ?_ ?_<;>intro h<;>try omega|refine zy ?_|fail)<;>conv=>whnf
    all_goals first
     |omega
     |(exfalso;simp_all;done)
     |exact i6 (b12 hs)
def b1B (a:Bg):Bg:=if G0 a then bz (-bv a) else ⟨0,[]⟩
theorem b7n (a:Bg) (la:a.dl.length<=1000000):a9 Tryz.prog 141 [bgS a] [] (bgS (b1B a)) []:=by
 have r1:=a1Z a la
 cases ha:G0 a with
 |false=>
  rw [ha] at r1
  have e:b1B a=⟨0,[]⟩:=by unfold b1B;rw [ha];rfl
  rw [e]
  (refine ac Tryz.func141 ?_;(conv=>whnf);repeat (refine zy ?_;conv=>whnf))
  repeat' (first|refine zz ?_|refine qp r1 ?_|refine zd ?_ ?_<;>intro h<;>try omega|refine zy ?_|fail)<;>conv=>whnf
  all_goals (first|(exfalso;simp_all;done)|exact k5 ⟨rfl,rfl,trivial⟩)
 |true=>
  rw [ha] at r1
  obtain ⟨x,rfl⟩:=ab0 ha
  have e:b1B (bz x)=sgn (0 - (bz x).sg) (bz x).dl:=by
   rw [Int.zero_sub]
   unfold b1B
   rw [ha,aK7 (aL9 x).1 (by rcases B2 x with ⟨h,h1⟩|⟨h,h1⟩|⟨h,h1⟩<;>rw [ab2,h]<;>simp [h1,aq6]),a3f,aq6,ab2]
   show bz (-x)=_
   congr 1
   rw [Int.neg_mul,Int.sign_mul_natAbs]
  rw [e]
  have hs:-1<=(bz x).sg∧(bz x).sg<=1:=by rcases B2 x with ⟨h,h1⟩|⟨h,h1⟩|⟨h,h1⟩<;>rw [ab2,h]<;>decide
  (refine ac Tryz.func141 ?_;(conv=>whnf);repeat (refine zy ?_;conv=>whnf))
  repeat' (first|refine zz ?_|refine qp r1 ?_|refine qp (a8q _ la) ?_|refine qp (ay8 _ _ la) ?_|refine zd ?_ ?_<;>intro h<;>try omega|refine zy ?_|fail)<;>conv=>whnf
  all_goals (first|(exfalso;simp_all;done)|exact k5 ⟨rfl,rfl,trivial⟩)
theorem a6D {a:Int} (j:Nat) (hj:j<=62):IntKind.wrap .i64 (BitVec.ofInt (IntKind.bits .i64) a &&& BitVec.ofInt (IntKind.bits .i64) ((2 ^ j - 1:Nat):Int)).toNat=a % ((2 ^ j:Nat):Int):=by
 rw [aD6 rfl a j hj]
 have hp:(2:Nat) ^ j<=2 ^ 62:=Nat.pow_le_pow_right (by decide) hj
 have h0:0<(2:Nat) ^ j:=Nat.pow_pos (by decide)
 have h1:0<=a % ((2 ^ j:Nat):Int):=Int.emod_nonneg _ (by omega)
 have h2:a % ((2 ^ j:Nat):Int)<((2 ^ j:Nat):Int):=Int.emod_lt_of_pos _ (by omega)
 rw [Int.toNat_of_nonneg h1]
 exact (show F2 .i64 _ _ from a4K (by omega) (by omega)).symm
structure ap8 (m n:Int):Prop where
 ok:∀a:Int,T1 .and .i64 a m (a % n)
theorem a55:ap8 1048575 1048576:=⟨fun a=>(a6D (a:=a) 20 (by decide)).symm⟩
theorem a99:ap8 1 2:=⟨fun a=>(a6D (a:=a) 1 (by decide)).symm⟩
theorem a9G (a:Int):aX6 .i64 a 20 (a / 1048576):=by
 show a / 1048576=a.fdiv 1048576
 exact (Int.fdiv_eq_ediv_of_nonneg _ (by decide)).symm
theorem H7 {l:List Int} {i:Nat} {n:Int} {v:Int} (h:0+n.toNat=i):(toC (l.map d9)).set (0+n.toNat) [C.t (ti v)]=toC ((l.set i v).map d9):=by
 rw [h];simp [toC,d9,List.map_set]
theorem J9 {l:List Int} {n:Int} {i:Nat} (h:n.toNat=i) (hi:i<l.length):l[0+n.toNat]? =some (dat l i):=by rw [Nat.zero_add,h];exact s7 hi
theorem b7V (a b:List Int) (ha:Okd a) (hb:Okd b) (la:a.length<=400000) (lb:b.length<=400000) (hab:b.length<=a.length):
 a9 Tryz.prog 215 [d8 a,d8 b] [] (d8 (dg (val a+val b).toNat)) []:=by
 have l1:(a.map d9).length=a.length:=by simp
 have l2:(b.map d9).length=b.length:=by simp
 (refine ac Tryz.func215 ?_;(conv=>whnf);repeat (refine zy ?_;conv=>whnf))
 repeat' (first|refine zz ?_|refine a2q (by omega) (by omega) (by omega) (by decide) ?_|refine zd ?_ ?_<;>intro h<;>try omega|refine zy ?_|fail)<;>conv=>whnf
 refine k8 c8 (σ:=Nat × List Int × Int) (fun|(k,out,c)=>([d8 a,d8 b,J,J,J,a0m 0 out,a7 .i64 c,J,J,J,J,J,J,J,J,J,J,J,J,J,d8 a,a7 .i64 a.length,a7 .i64 k,J,J,J,J,J,J,J,J,J,J,J,J,J,J,J,J,J,J,J,J,J,J,J,J,J,J,J,J,J,J,J,J],[o4 out])) (fun x=>a77 a b x.1 x.2.1 x.2.2) (fun x=>a.length - x.1) (0,List.replicate (a.length+1) 0,0) [some 0]
  (a77.init _ _) ⟨rfl,rfl,⟨a8 rfl rfl rfl ?_ rfl,trivial⟩,⟨g9 rfl,g9 rfl,j9 rfl (by simp),rfl,g9 rfl,c6 (by simp),rfl,trivial⟩⟩ ?_
 ·show List.replicate _ _=_
  simp [toC,d9,A9]
 rintro ⟨k,out,c⟩ hI
 have hI:a77 a b k out c:=hI
 have hlen:=hI.len
 have hle:=hI.le
 have hc0:=hI.c0
 have hc1:=hI.c1
 conv=>whnf
 have hda:=ha.dat k
 have hdb:=hb.dat k
 repeat' (first|refine zz ?_|refine b8 (s7 (by omega)) ?_|refine a01 (by omega) (by show _<((out.length:Nat):Int);omega) ?_|refine j6 (J9 rfl (by omega)) ?_|refine ⟨_,ap8.ok (by first|exact a55|exact a99) _,?_⟩|refine ⟨by decide,_,a9G _,?_⟩|refine zd ?_ ?_<;>intro h<;>try omega|refine zy ?_|fail)<;>conv=>whnf
 ·refine ⟨[some 0],(k+1,out.set k ((c+dat a k+dat b k) % 1048576),(c+dat a k+dat b k) / 1048576),⟨rfl,rfl,⟨a8 rfl rfl rfl (H7 (by omega)) rfl,trivial⟩,⟨rfl,rfl,j9 rfl (by simp),rfl,rfl,rfl,c6 (by omega),trivial⟩⟩,hI.step ha hb (by omega),?_⟩
  show a.length - (k+1)<a.length - k
  omega
 ·have e:dat b k=0:=M9 (by omega)
  have hst:=hI.step ha hb (by omega)
  rw [e,Int.add_zero] at hst
  refine ⟨[some 0],(k+1,out.set k ((c+dat a k) % 1048576),(c+dat a k) / 1048576),⟨rfl,rfl,⟨a8 rfl rfl rfl (H7 (by omega)) rfl,trivial⟩,⟨rfl,rfl,j9 rfl (by simp),rfl,rfl,rfl,c6 (by omega),trivial⟩⟩,hst,?_⟩
  show a.length - (k+1)<a.length - k
  omega
 ·have hk:k=a.length:=by omega
  subst hk
  have hf:=hI.fin (by omega)
  have t:=a36 (out.set a.length c) (by simp;omega)
  rw [hf] at t
  refine .inr ⟨_,_,u0 [0] t ⟨a0q (t5 (by simp) rfl (by intro h;cases h) rfl (H7 (by omega)) (by simp)),trivial⟩ rfl,?_⟩
  conv=>whnf
  exact a9w (by rw [Int.add_comm])
theorem b7D (a b:List Int) (ha:Okd a) (hb:Okd b) (la:a.length<=400000) (lb:b.length<=400000) (hab:a.length<b.length):
 a9 Tryz.prog 215 [d8 a,d8 b] [] (d8 (dg (val a+val b).toNat)) []:=by
 have l1:(a.map d9).length=a.length:=by simp
 have l2:(b.map d9).length=b.length:=by simp
 (refine ac Tryz.func215 ?_;(conv=>whnf);repeat (refine zy ?_;conv=>whnf))
 repeat' (first|refine zz ?_|refine a2q (by omega) (by omega) (by omega) (by decide) ?_|refine zd ?_ ?_<;>intro h<;>try omega|refine zy ?_|fail)<;>conv=>whnf
 refine k8 c8 (σ:=Nat × List Int × Int) (fun|(k,out,c)=>([d8 b,d8 a,J,J,J,a0m 0 out,a7 .i64 c,J,J,J,J,J,J,J,J,J,J,J,J,J,d8 b,a7 .i64 b.length,a7 .i64 k,J,J,J,J,J,J,J,J,J,J,J,J,J,J,J,J,J,J,J,J,J,J,J,J,J,J,J,J,J,J,J,J],[o4 out])) (fun x=>a77 b a x.1 x.2.1 x.2.2) (fun x=>b.length - x.1) (0,List.replicate (b.length+1) 0,0) [some 0]
  (a77.init _ _) ⟨rfl,rfl,⟨a8 rfl rfl rfl ?_ rfl,trivial⟩,⟨g9 rfl,g9 rfl,j9 rfl (by simp),rfl,g9 rfl,c6 (by simp),rfl,trivial⟩⟩ ?_
 ·show List.replicate _ _=_
  simp [toC,d9,A9]
 rintro ⟨k,out,c⟩ hI
 have hI:a77 b a k out c:=hI
 have hlen:=hI.len
 have hle:=hI.le
 have hc0:=hI.c0
 have hc1:=hI.c1
 conv=>whnf
 have hda:=hb.dat k
 have hdb:=ha.dat k
 repeat' (first|refine zz ?_|refine b8 (s7 (by omega)) ?_|refine a01 (by omega) (by show _<((out.length:Nat):Int);omega) ?_|refine j6 (J9 rfl (by omega)) ?_|refine ⟨_,ap8.ok (by first|exact a55|exact a99) _,?_⟩|refine ⟨by decide,_,a9G _,?_⟩|refine zd ?_ ?_<;>intro h<;>try omega|refine zy ?_|fail)<;>conv=>whnf
 ·refine ⟨[some 0],(k+1,out.set k ((c+dat b k+dat a k) % 1048576),(c+dat b k+dat a k) / 1048576),⟨rfl,rfl,⟨a8 rfl rfl rfl (H7 (by omega)) rfl,trivial⟩,⟨rfl,rfl,j9 rfl (by simp),rfl,rfl,rfl,c6 (by omega),trivial⟩⟩,hI.step hb ha (by omega),?_⟩
  show b.length - (k+1)<b.length - k
  omega
 ·have e:dat a k=0:=M9 (by omega)
  have hst:=hI.step hb ha (by omega)
  rw [e,Int.add_zero] at hst
  refine ⟨[some 0],(k+1,out.set k ((c+dat b k) % 1048576),(c+dat b k) / 1048576),⟨rfl,rfl,⟨a8 rfl rfl rfl (H7 (by omega)) rfl,trivial⟩,⟨rfl,rfl,j9 rfl (by simp),rfl,rfl,rfl,c6 (by omega),trivial⟩⟩,hst,?_⟩
  show b.length - (k+1)<b.length - k
  omega
 ·have hk:k=b.length:=by omega
  subst hk
  have hf:=hI.fin (by omega)
  have t:=a36 (out.set b.length c) (by simp;omega)
  rw [hf] at t
  refine .inr ⟨_,_,u0 [0] t ⟨a0q (t5 (by simp) rfl (by intro h;cases h) rfl (H7 (by omega)) (by simp)),trivial⟩ rfl,?_⟩
  conv=>whnf
  exact a9w (by rw [Int.add_comm])
theorem b8p (a b:List Int) (ha:Okd a) (hb:Okd b) (la:a.length<=400000) (lb:b.length<=400000):
 a9 Tryz.prog 215 [d8 a,d8 b] [] (d8 (dg (val a+val b).toNat)) []:=by
 rcases Nat.lt_or_ge a.length b.length with h|h
 ·exact b7D a b ha hb la lb h
 ·exact b7V a b ha hb la lb h
theorem b8H (a b:List Int) (ha:Okd a) (hb:Okd b) (la:a.length<=400000) (lb:b.length<=a.length) (hv:val b<=val a):
 a9 Tryz.prog 216 [d8 a,d8 b] [] (d8 (dg (val a - val b).toNat)) []:=by
 have l1:(a.map d9).length=a.length:=by simp
 have l2:(b.map d9).length=b.length:=by simp
 (refine ac Tryz.func216 ?_;(conv=>whnf);repeat (refine zy ?_;conv=>whnf))
 repeat' (first|refine zz ?_|refine zd ?_ ?_<;>intro h<;>try omega|refine zy ?_|fail)<;>conv=>whnf
 refine .inr ⟨_,_,ah0 (b4e a (by omega)) rfl rfl rfl rfl,?_⟩
 conv=>whnf
 repeat' (first|refine zz ?_|refine zd ?_ ?_<;>intro h<;>try omega|refine zy ?_|fail)<;>conv=>whnf
 refine k8 c8 (σ:=Nat × List Int × Int) (fun|(k,out,c)=>([J,d8 b,J,J,J,a0m 0 out,a7 .i64 c,J,J,J,J,J,a7 .i64 a.length,a7 .i64 k,J,J,J,J,J,J,J,J,J,J,J,J,J,J,J,J,J,J,J,J,J,J,J,J,J,J,J,J,J],[o4 out])) (fun x=>ae7 a b x.1 x.2.1 x.2.2) (fun x=>a.length - x.1) (0,a,0) [some 0]
  (ae7.init ha) ⟨rfl,rfl,⟨a8 rfl rfl rfl rfl rfl,trivial⟩,⟨g9 rfl,j9 rfl rfl,rfl,c6 (by simp),rfl,trivial⟩⟩ ?_
 rintro ⟨k,out,c⟩ hI
 have hI:ae7 a b k out c:=hI
 have hlen:=hI.len
 have hle:=hI.le
 have hc0:=hI.c0
 have hc1:=hI.c1
 conv=>whnf
 have hda:=hI.ok.dat k
 have hdb:=hb.dat k
 repeat' (first|refine zz ?_|refine b8 (s7 (by omega)) ?_|refine a01 (by omega) (by show _<((out.length:Nat):Int);omega) ?_|refine j6 (J9 (i:=k) rfl (by omega)) ?_|refine ⟨_,ap8.ok (by first|exact a55|exact a99) _,?_⟩|refine ⟨by decide,_,a9G _,?_⟩|refine zd ?_ ?_<;>intro h<;>try omega|refine zy ?_|fail)<;>conv=>whnf
 ·refine ⟨[some 0],(k+1,out.set k ((dat out k - c - dat b k) % 1048576),(dat out k - c - dat b k) / 1048576 % 2),⟨rfl,rfl,⟨a8 rfl rfl rfl (H7 (by omega)) rfl,trivial⟩,⟨rfl,j9 rfl (by simp),rfl,rfl,c6 (by omega),trivial⟩⟩,hI.step ha hb (by omega),?_⟩
  show a.length - (k+1)<a.length - k
  omega
 ·have e:dat b k=0:=M9 (by omega)
  have hst:=hI.step ha hb (by omega)
  rw [e,Int.sub_zero] at hst
  refine ⟨[some 0],(k+1,out.set k ((dat out k - c) % 1048576),(dat out k - c) / 1048576 % 2),⟨rfl,rfl,⟨a8 rfl rfl rfl (H7 (by omega)) rfl,trivial⟩,⟨rfl,j9 rfl (by simp),rfl,rfl,c6 (by omega),trivial⟩⟩,hst,?_⟩
  show a.length - (k+1)<a.length - k
  omega
 ·have hk:k=a.length:=by omega
  subst hk
  have hf:=hI.fin (by omega) hv
  have t:=a36 out (by omega)
  rw [hf] at t
  refine .inr ⟨_,_,u0 [0] t ⟨a0q (t5 (by simp) rfl (by intro h;cases h) rfl rfl (by simp)),trivial⟩ rfl,?_⟩
  conv=>whnf
  exact a9w rfl
set_option maxHeartbeats 1000000 in
theorem b6y (a b:List Int) (ha:Okd a) (hb:Okd b) (la:a.length<=400000) (lb:b.length<=400000):
 a9 Tryz.prog 266 [d8 a,d8 b] [] (d8 (dg (val a*val b).toNat)) []:=by
 have l1:(a.map d9).length=a.length:=by simp
 have l2:(b.map d9).length=b.length:=by simp
 (refine ac Tryz.func266 ?_;(conv=>whnf);repeat (refine zy ?_;conv=>whnf))
 repeat' (first|refine zz ?_|refine a2q (by omega) (by omega) (by omega) (by decide) ?_|refine zd ?_ ?_<;>intro h<;>try omega|refine zy ?_|fail)<;>conv=>whnf
 refine k8 c8 (σ:=Nat × List Int) (fun|(i,out)=>([J,d8 b,J,J,J,a0m 0 out,J,J,J,J,J,J,J,J,J,J,J,J,d8 a,a7 .i64 a.length,a7 .i64 i,J,J,J,J,J,J,J,J,J,J,J,J,J,J,J,J,J,J,J,J,J,J,J,J,J,J,J,J,J,J,J,J,J,J,J,J,J,J,J,J,J,J,J,J,J,J],[o4 out])) (fun x=>a3p a b x.1 x.2) (fun x=>a.length - x.1) (0,List.replicate (a.length+b.length) 0) [some 0]
  (a3p.init a b) ⟨rfl,rfl,⟨a8 rfl rfl rfl ?_ rfl,trivial⟩,⟨g9 rfl,j9 rfl (by simp;omega),g9 rfl,c6 (by simp),rfl,trivial⟩⟩ ?_
 ·show List.replicate _ _=_
  rw [show ((((a.map d9).length:Nat):Int)+((b.map d9).length:Nat)).toNat=a.length+b.length by omega]
  simp [toC,d9,A9]
 rintro ⟨i,out⟩ hI
 have hI:a3p a b i out:=hI
 have hlen:=hI.len
 have hle:=hI.le
 conv=>whnf
 repeat' (first|refine zz ?_|refine b8 (s7 (by omega)) ?_|refine zd ?_ ?_<;>intro h<;>try omega|refine zy ?_|fail)<;>conv=>whnf
 ·have hi:i<a.length:=by omega
  refine k8 c8 (σ:=Nat × List Int × Int) (fun|(k,out,c)=>([J,d8 b,J,J,J,a0m 0 out,a7 .i64 i,a7 .i64 (dat a i),a7 .i64 c,J,J,J,J,J,J,J,J,J,d8 a,a7 .i64 a.length,a7 .i64 i,J,J,J,J,d8 b,a7 .i64 b.length,a7 .i64 k,J,J,J,J,J,J,J,J,J,J,J,J,J,J,J,J,J,J,J,J,J,J,J,J,J,J,J,J,J,J,J,J,J,J,J,J,J,J,J],[o4 out])) (fun x=>aa9 a b i x.1 x.2.1 x.2.2) (fun x=>b.length - x.1) (0,out,0) [some 0]
   hI.start ⟨rfl,rfl,⟨a8 rfl rfl rfl rfl rfl,trivial⟩,⟨g9 rfl,j9 rfl rfl,rfl,rfl,rfl,g9 rfl,rfl,rfl,g9 rfl,c6 (by simp),rfl,trivial⟩⟩ ?_
  rintro ⟨k,out,c⟩ hK
  have hK:aa9 a b i k out c:=hK
  have hlen:=hK.len
  have hle:=hK.le
  have hc0:=hK.c0
  have hc1:=hK.c1
  conv=>whnf
  have hdo:=hK.ok.dat (i+k)
  have hm:=a2G (ha.dat i) (hb.dat k)
  have e1:((i:Int)+k).toNat=i+k:=by omega
  have e2:((i:Int)+b.length).toNat=i+b.length:=by omega
  have e3:((i:Int)+((b.map d9).length:Nat)).toNat=i+b.length:=by omega
  have hz:=hK.zero (i+b.length) (Nat.le_refl _)
  repeat' (first|refine zz ?_|refine b8 (s7 (by omega)) ?_|refine a01 (by omega) (by show _<((out.length:Nat):Int);omega) ?_|refine j6 (J9 e1 (by omega)) ?_|refine j6 (J9 e3 (by omega)) ?_|refine ⟨_,ap8.ok (by first|exact a55|exact a99) _,?_⟩|refine ⟨by decide,_,a9G _,?_⟩|refine zd ?_ ?_<;>intro h<;>try omega|refine zy ?_|fail)<;>conv=>whnf
  ·refine ⟨[some 0],(k+1,out.set (i+k) ((dat out (i+k)+dat a i*dat b k+c) % 1048576),(dat out (i+k)+dat a i*dat b k+c) / 1048576),⟨rfl,rfl,⟨a8 rfl rfl rfl (H7 (by omega)) rfl,trivial⟩,⟨rfl,j9 rfl (by simp),rfl,rfl,rfl,rfl,rfl,rfl,rfl,rfl,c6 (by omega),trivial⟩⟩,hK.step ha hb hi (by omega),?_⟩
   show b.length - (k+1)<b.length - k
   omega
  ·have hk:k=b.length:=by omega
   subst hk
   refine ⟨[some 0],(i+1,out.set (i+b.length) (dat out (i+b.length)+c)),⟨rfl,rfl,⟨a8 rfl rfl rfl (H7 (by omega)) rfl,trivial⟩,⟨rfl,j9 rfl (by simp),rfl,rfl,c6 (by omega),trivial⟩⟩,hK.done ha hb hi,?_⟩
   show a.length - (i+1)<a.length - i
   omega
 ·have hi:i=a.length:=by omega
  subst hi
  have hf:=hI.fin
  have t:=a36 out (by omega)
  rw [hf] at t
  refine .inr ⟨_,_,u0 [0] t ⟨a0q (t5 (by simp) rfl (by intro h;cases h) rfl rfl (by simp)),trivial⟩ rfl,?_⟩
  conv=>whnf
  exact a9w rfl
set_option maxHeartbeats 1000000 in
theorem b7l (a b:List Int) (ha:Okd a) (hb:Okd b) (la:a.length<=400000) (lb:b.length<=400000):
 a9 Tryz.prog 266 [d8 a,d8 b] [] (.c (.own 0 0 (dg (val a*val b).toNat).length true)) [o4 (Y1 (a.length+b.length) (dg (val a*val b).toNat))]:=by
 have l1:(a.map d9).length=a.length:=by simp
 have l2:(b.map d9).length=b.length:=by simp
 (refine ac Tryz.func266 ?_;(conv=>whnf);repeat (refine zy ?_;conv=>whnf))
 repeat' (first|refine zz ?_|refine a2q (by omega) (by omega) (by omega) (by decide) ?_|refine zd ?_ ?_<;>intro h<;>try omega|refine zy ?_|fail)<;>conv=>whnf
 refine k8 c8 (σ:=Nat × List Int) (fun|(i,out)=>([J,d8 b,J,J,J,a0m 0 out,J,J,J,J,J,J,J,J,J,J,J,J,d8 a,a7 .i64 a.length,a7 .i64 i,J,J,J,J,J,J,J,J,J,J,J,J,J,J,J,J,J,J,J,J,J,J,J,J,J,J,J,J,J,J,J,J,J,J,J,J,J,J,J,J,J,J,J,J,J,J],[o4 out])) (fun x=>a3p a b x.1 x.2) (fun x=>a.length - x.1) (0,List.replicate (a.length+b.length) 0) [some 0]
  (a3p.init a b) ⟨rfl,rfl,⟨a8 rfl rfl rfl ?_ rfl,trivial⟩,⟨g9 rfl,j9 rfl (by simp;omega),g9 rfl,c6 (by simp),rfl,trivial⟩⟩ ?_
 ·show List.replicate _ _=_
  rw [show ((((a.map d9).length:Nat):Int)+((b.map d9).length:Nat)).toNat=a.length+b.length by omega]
  simp [toC,d9,A9]
 rintro ⟨i,out⟩ hI
 have hI:a3p a b i out:=hI
 have hlen:=hI.len
 have hle:=hI.le
 conv=>whnf
 repeat' (first|refine zz ?_|refine b8 (s7 (by omega)) ?_|refine zd ?_ ?_<;>intro h<;>try omega|refine zy ?_|fail)<;>conv=>whnf
 ·have hi:i<a.length:=by omega
  refine k8 c8 (σ:=Nat × List Int × Int) (fun|(k,out,c)=>([J,d8 b,J,J,J,a0m 0 out,a7 .i64 i,a7 .i64 (dat a i),a7 .i64 c,J,J,J,J,J,J,J,J,J,d8 a,a7 .i64 a.length,a7 .i64 i,J,J,J,J,d8 b,a7 .i64 b.length,a7 .i64 k,J,J,J,J,J,J,J,J,J,J,J,J,J,J,J,J,J,J,J,J,J,J,J,J,J,J,J,J,J,J,J,J,J,J,J,J,J,J,J],[o4 out])) (fun x=>aa9 a b i x.1 x.2.1 x.2.2) (fun x=>b.length - x.1) (0,out,0) [some 0]
   hI.start ⟨rfl,rfl,⟨a8 rfl rfl rfl rfl rfl,trivial⟩,⟨g9 rfl,j9 rfl rfl,rfl,rfl,rfl,g9 rfl,rfl,rfl,g9 rfl,c6 (by simp),rfl,trivial⟩⟩ ?_
  rintro ⟨k,out,c⟩ hK
  have hK:aa9 a b i k out c:=hK
  have hlen:=hK.len
  have hle:=hK.le
  have hc0:=hK.c0
  have hc1:=hK.c1
  conv=>whnf
  have hdo:=hK.ok.dat (i+k)
  have hm:=a2G (ha.dat i) (hb.dat k)
  have e1:((i:Int)+k).toNat=i+k:=by omega
  have e2:((i:Int)+b.length).toNat=i+b.length:=by omega
  have e3:((i:Int)+((b.map d9).length:Nat)).toNat=i+b.length:=by omega
  have hz:=hK.zero (i+b.length) (Nat.le_refl _)
  repeat' (first|refine zz ?_|refine b8 (s7 (by omega)) ?_|refine a01 (by omega) (by show _<((out.length:Nat):Int);omega) ?_|refine j6 (J9 e1 (by omega)) ?_|refine j6 (J9 e3 (by omega)) ?_|refine ⟨_,ap8.ok (by first|exact a55|exact a99) _,?_⟩|refine ⟨by decide,_,a9G _,?_⟩|refine zd ?_ ?_<;>intro h<;>try omega|refine zy ?_|fail)<;>conv=>whnf
  ·refine ⟨[some 0],(k+1,out.set (i+k) ((dat out (i+k)+dat a i*dat b k+c) % 1048576),(dat out (i+k)+dat a i*dat b k+c) / 1048576),⟨rfl,rfl,⟨a8 rfl rfl rfl (H7 (by omega)) rfl,trivial⟩,⟨rfl,j9 rfl (by simp),rfl,rfl,rfl,rfl,rfl,rfl,rfl,rfl,c6 (by omega),trivial⟩⟩,hK.step ha hb hi (by omega),?_⟩
   show b.length - (k+1)<b.length - k
   omega
  ·have hk:k=b.length:=by omega
   subst hk
   refine ⟨[some 0],(i+1,out.set (i+b.length) (dat out (i+b.length)+c)),⟨rfl,rfl,⟨a8 rfl rfl rfl (H7 (by omega)) rfl,trivial⟩,⟨rfl,j9 rfl (by simp),rfl,rfl,c6 (by omega),trivial⟩⟩,hK.done ha hb hi,?_⟩
   show a.length - (i+1)<a.length - i
   omega
 ·have hi:i=a.length:=by omega
  subst hi
  have hf:=hI.fin
  have t:=b6p out (by omega)
  have hp:=ak1 out
  rw [hf] at t hp
  refine .inr ⟨_,_,t,?_⟩
  conv=>whnf
  have hq:Y1 (a.length+b.length) (dg (val a*val b).toNat)=out:=by unfold Y1;rw [← hlen];exact hp
  rw [hq]
  exact ⟨⟨[some 0],rfl,rfl,⟨a8 rfl rfl rfl rfl rfl,trivial⟩,⟨rfl,rfl,rfl,fun h=>h⟩⟩⟩
theorem b2C {r:Int} (h0:0<=r) (h1:r<4398046511104):F2 .i64 (r*2 ^ min (20:Int).toNat (IntKind.bits .i64)) (r*1048576):=by
 show F2 .i64 (r*1048576) (r*1048576)
 exact a4K (by omega) (by omega)
theorem b6N {k:IntKind} (hk:k.bits=64) (R X:Nat) (h1:R<4398046511104) (hx:X<1048576):(BitVec.ofInt k.bits ((R:Int)*1048576) ||| BitVec.ofInt k.bits (X:Int)).toNat=R*1048576+X:=by
 rw [hk,BitVec.toNat_or,BitVec.toNat_ofInt,BitVec.toNat_ofInt]
 have e1:(((R:Int)*1048576) % ((2 ^ 64:Nat):Int)).toNat=R <<< 20:=by
  rw [Nat.shiftLeft_eq];omega
 have e2:((X:Int) % ((2 ^ 64:Nat):Int)).toNat=X:=by omega
 rw [e1,e2,←Nat.shiftLeft_add_eq_or_of_lt (by omega),Nat.shiftLeft_eq]
theorem b7E {r x:Int} (h0:0<=r) (h1:r<4398046511104) (hx0:0<=x) (hx1:x<1048576):T1 .or .i64 (r*1048576) x (r*1048576+x):=by
 obtain ⟨R,rfl⟩:=Int.eq_ofNat_of_zero_le h0
 obtain ⟨X,rfl⟩:=Int.eq_ofNat_of_zero_le hx0
 unfold T1
 simp only
 rw [b6N rfl R X (by omega) (by omega)]
 have e:((R*1048576+X:Nat):Int)=(R:Int)*1048576+X:=by simp
 rw [e]
 exact (show F2 .i64 ((R:Int)*1048576+X) _ from a4K (by omega) (by omega))
theorem b2E {a b:Int} (h0:0<=a) (h1:a<=9223372036854775807) (hb:0<b):F2 .i64 (a.tdiv b) (a / b):=by
 rw [Int.tdiv_eq_ediv_of_nonneg h0]
 have h2:0<=a / b:=Int.ediv_nonneg h0 (by omega)
 have h3:a / b<=a:=Int.ediv_le_self _ h0
 exact a4K (by omega) (by omega)
theorem b0L {l:List Int} {n:Nat} (h:0<n) (hn:n<=l.length):l[0+((n:Int) - 1).toNat]? =some (dat l (n - 1)):=by rw [Nat.zero_add];exact a0M h hn
theorem aV1 (a:List Int) (d:Int) (ha:Okd a) (la:a.length<=1000000) (hd:0<d) (hd2:d<1048576):
 a9 Tryz.prog 264 [d8 a,a7 .i64 d] [] (.tup [d8 (dg (val a / d).toNat),a7 .i64 (val a % d)]) []:=by
 have l1:(a.map d9).length=a.length:=by simp
 (refine ac Tryz.func264 ?_;(conv=>whnf);repeat (refine zy ?_;conv=>whnf))
 repeat' (first|refine zz ?_|refine a2q (by omega) (by omega) (by omega) (by decide) ?_|refine zd ?_ ?_<;>intro h<;>try omega|refine zy ?_|fail)<;>conv=>whnf
 refine k8 c8 (σ:=Nat × List Int × Int) (fun|(j,out,r)=>([d8 a,a7 .i64 d,J,J,J,J,a0m 0 out,a7 .i64 r,a7 .i64 ((j:Int) - 1),J,J,J,J,J,J,J,J,J,J,J,J,J,J,J,J,J,J,J,J,J,J,J,J,J,J,J,J,J],[o4 out])) (fun x=>Y8 a d x.1 x.2.1 x.2.2) (fun x=>x.1) (a.length,List.replicate a.length 0,0) [some 0]
  (Y8.init a hd) ⟨rfl,rfl,⟨a8 rfl rfl rfl ?_ rfl,trivial⟩,⟨g9 rfl,rfl,j9 rfl (by simp),rfl,c6 (by simp),trivial⟩⟩ ?_
 ·show List.replicate _ _=_
  simp [toC,d9,A9]
 rintro ⟨j,out,r⟩ hI
 have hI:Y8 a d j out r:=hI
 have hlen:=hI.len
 have hle:=hI.le
 have hr0:=hI.r0
 have hr1:=hI.r1
 have hda:=ha.dat (j - 1)
 conv=>whnf
 repeat' (first|refine zz ?_|refine p4 (by omega) (a0M (by omega) hle) ?_|refine a01 (by omega) (by show _<((out.length:Nat):Int);omega) ?_|refine j6 (b0L (by omega) (by omega)) ?_|refine ⟨by decide,_,b2C (by omega) (by omega),?_⟩|refine ⟨_,b7E (by omega) (by omega) (by omega) (by omega),?_⟩|refine ⟨by omega,_,b2E (by omega) (by omega) (by omega),?_⟩|refine ah3 (by omega) ?_|refine zd ?_ ?_<;>intro h<;>try omega|refine zy ?_|fail)<;>conv=>whnf
 ·obtain ⟨j,rfl⟩:∃i,j=i+1:=⟨j - 1,by omega⟩
  simp only [Nat.add_sub_cancel] at *
  have hst:=hI.step ha hd
  rw [← Int.tmod_eq_emod_of_nonneg (by omega)] at hst
  refine ⟨[some 0],(j,out.set j ((r*1048576+dat a j) / d),(r*1048576+dat a j).tmod d),⟨rfl,rfl,⟨a8 rfl rfl rfl (H7 (by omega)) rfl,trivial⟩,⟨rfl,rfl,j9 rfl (by simp),rfl,c6 (by omega),trivial⟩⟩,hst,?_⟩
  show j<j+1
  omega
 ·have hj:j=0:=by omega
  subst hj
  obtain ⟨hf,hr⟩:=hI.fin ha hd
  have t:=a36 out (by omega)
  rw [hf] at t
  refine .inr ⟨_,_,u0 [0] t ⟨a0q (t5 (by simp) rfl (by intro h;cases h) rfl rfl (by simp)),trivial⟩ rfl,?_⟩
  conv=>whnf
  repeat' (first|refine zz ?_|refine zd ?_ ?_<;>intro h<;>try omega|refine zy ?_|fail)<;>conv=>whnf
  exact k5 ⟨rfl,c6 hr,trivial⟩
theorem aW6 {pre out post:List Int} {k:Nat} (h:k<out.length):(pre++out++post)[pre.length+(k:Int).toNat]? =some (dat out k):=by
 rw [List.append_assoc,List.getElem?_append_right (by omega),show pre.length+(k:Int).toNat - pre.length=k by omega,List.getElem?_append_left h]
 exact s7 h
theorem a5N {pre out post:List Int} {k:Nat} {v:Int} (h:k<out.length):(toC ((pre++out++post).map d9)).set (pre.length+(k:Int).toNat) [C.t (ti v)]=toC ((pre++out.set k v++post).map d9):=by
 have e:(pre++out++post).set (pre.length+k) v=pre++out.set k v++post:=by
  rw [List.append_assoc,List.set_append_right _ _ (by omega),show pre.length+k - pre.length=k by omega,List.set_append_left _ _ h,List.append_assoc]
 rw [← e]
 show (toC ((pre++out++post).map d9)).set (pre.length+k) _=_
 simp [toC,d9,List.map_set]
def S7 (w v g:Int):Int:=if g*v<=w then g else g - 1
theorem b2h (pre w post v:List Int) (g:Int) (hw:Okd w) (hv:Okd v) (lw:w.length<=1000000) (lv:v.length<=w.length) (hg:0<=g∧g<1048576) (hgv:g*val v<=val w+val v):
 a9 Tryz.prog 267 [.c (.own 0 pre.length w.length false),d8 v,a7 .i64 g] [o4 (pre++w++post)] (a7 .i64 (S7 (val w) (val v) g))
  [o4 (pre++Y1 w.length (dg (val w - S7 (val w) (val v) g*val v).toNat)++post)]:=by
 have l1:(v.map d9).length=v.length:=by simp
 (refine ac Tryz.func267 ?_;(conv=>whnf);repeat (refine zy ?_;conv=>whnf))
 repeat' (first|refine zz ?_|refine zd ?_ ?_<;>intro h<;>try omega|refine zy ?_|fail)<;>conv=>whnf
 refine k8 c8 (σ:=Nat × List Int × Int) (fun|(k,out,c)=>([S.c (C.own 0 pre.length w.length false),d8 v,a7 .i64 g,J,J,J,J,a7 .i64 c,J,J,J,J,J,a7 .i64 w.length,a7 .i64 k,J,J,J,J,J,J,J,J,J,J,J,J,J,J,J,J,J,J,J,J,J,J,J,J,J,J,J,J,J,J,J,J,J,J,J,J,J,J,J,J,J,J,J,J,J,J,J,J,J,J,J,J,J,J,J,J,J,J,J,J,J,J,J],[o4 (pre++out++post)])) (fun x=>a8d w v g x.1 x.2.1 x.2.2) (fun x=>w.length - x.1) (0,w,0) [some 0]
  (a8d.init g hw) ⟨rfl,rfl,⟨a8 rfl rfl rfl rfl rfl,trivial⟩,⟨⟨rfl,rfl,rfl,fun h=>h⟩,g9 rfl,rfl,rfl,rfl,rfl,trivial⟩⟩ ?_
 rintro ⟨k,out,c⟩ hI
 have hI:a8d w v g k out c:=hI
 have hlen:=hI.len
 have hle:=hI.le
 have hc0:=hI.c0
 have hc1:=hI.c1
 have hdo:=hI.ok.dat k
 have hm:=a2G hg (hv.dat k)
 conv=>whnf
 repeat' (first|refine zz ?_|refine b8 (s7 (by omega)) ?_|refine j6 (aW6 (by omega)) ?_|refine ⟨_,ap8.ok (by first|exact a55|exact a99) _,?_⟩|refine ⟨by decide,_,a9G _,?_⟩|refine zd ?_ ?_<;>intro h<;>try omega|refine zy ?_|fail)<;>conv=>whnf
 ·have hst:=hI.step hv hg (by omega)
  refine ⟨[some 0],(k+1,out.set k ((dat out k - c - g*dat v k) % 1048576),-((dat out k - c - g*dat v k) / 1048576)),⟨rfl,rfl,⟨a8 rfl rfl rfl (a5N (by omega)) rfl,trivial⟩,⟨⟨rfl,rfl,rfl,fun h=>h⟩,rfl,rfl,c6 (Int.zero_sub _),rfl,c6 (by omega),trivial⟩⟩,hst,?_⟩
  show w.length - (k+1)<w.length - k
  omega
 ·have hst:=hI.step hv hg (by omega)
  rw [M9 (l:=v) (i:=k) (by omega),Int.mul_zero,Int.sub_zero] at hst
  refine ⟨[some 0],(k+1,out.set k ((dat out k - c) % 1048576),-((dat out k - c) / 1048576)),⟨rfl,rfl,⟨a8 rfl rfl rfl (a5N (by omega)) rfl,trivial⟩,⟨⟨rfl,rfl,rfl,fun h=>h⟩,rfl,rfl,c6 (Int.zero_sub _),rfl,c6 (by omega),trivial⟩⟩,hst,?_⟩
  show w.length - (k+1)<w.length - k
  omega
 ·have hk:k=w.length:=by omega
  subst hk
  have hc:c=0:=by assumption
  obtain ⟨h1,h2⟩:=hI.zero lv hw hv hg.1
  have hq:S7 (val w) (val v) g=g:=by unfold S7;rw [if_pos (h1.1 hc)]
  rw [hq,←h2 hc,←aZ1 hI.ok hlen]
  exact ⟨⟨[some 0],rfl,rfl,⟨a8 rfl rfl rfl rfl rfl,trivial⟩,rfl⟩⟩
 ·have hk:k=w.length:=by omega
  subst hk
  have hc:¬c=0:=by assumption
  obtain ⟨h1,h2⟩:=hI.zero lv hw hv hg.1
  have hlt:¬g*val v<=val w:=fun h=>hc (h1.2 h)
  have hq:S7 (val w) (val v) g=g - 1:=by unfold S7;rw [if_neg hlt]
  have hvl:=S9 hv
  have hpw:=a0C lv
  rw [hq]
  refine k8 c8 (σ:=Nat × List Int × Int) (fun|(k,o,c)=>([S.c (C.own 0 pre.length w.length false),d8 v,a7 .i64 g,J,J,J,J,J,J,J,a7 .i64 c,J,J,J,J,J,J,J,J,J,J,J,J,J,J,J,J,J,J,J,J,J,J,J,J,J,J,J,J,J,J,J,J,J,J,J,J,J,a7 .i64 w.length,a7 .i64 k,J,J,J,J,J,J,J,J,J,J,J,J,J,J,J,J,J,J,J,J,J,J,J,J,J,J,J,J],[o4 (pre++o++post)])) (fun x=>a6g out v x.1 x.2.1 x.2.2) (fun x=>w.length - x.1) (0,out,0) [some 0]
   (a6g.init hI.ok) ⟨rfl,rfl,⟨a8 rfl rfl rfl rfl rfl,trivial⟩,⟨⟨rfl,rfl,rfl,fun h=>h⟩,g9 rfl,rfl,rfl,rfl,rfl,trivial⟩⟩ ?_
  rintro ⟨k,o,c'⟩ hB
  have hB:a6g out v k o c':=hB
  have hlen2:=hB.len
  have hle2:=hB.le
  have hb0:=hB.c0
  have hb1:=hB.c1
  have hdo:=hB.ok.dat k
  have hdv:=hv.dat k
  conv=>whnf
  repeat' (first|refine zz ?_|refine b8 (s7 (by omega)) ?_|refine j6 (aW6 (by omega)) ?_|refine ⟨_,ap8.ok (by first|exact a55|exact a99) _,?_⟩|refine ⟨by decide,_,a9G _,?_⟩|refine zd ?_ ?_<;>intro h<;>try omega|refine zy ?_|fail)<;>conv=>whnf
  ·have hst:=hB.step hv (by omega)
   refine ⟨[some 0],(k+1,o.set k ((c'+dat o k+dat v k) % 1048576),(c'+dat o k+dat v k) / 1048576),⟨rfl,rfl,⟨a8 rfl rfl rfl (a5N (by omega)) rfl,trivial⟩,⟨⟨rfl,rfl,rfl,fun h=>h⟩,rfl,rfl,rfl,rfl,c6 (by omega),trivial⟩⟩,hst,?_⟩
   show w.length - (k+1)<w.length - k
   omega
  ·have hst:=hB.step hv (by omega)
   rw [M9 (l:=v) (i:=k) (by omega),Int.add_zero] at hst
   refine ⟨[some 0],(k+1,o.set k ((c'+dat o k) % 1048576),(c'+dat o k) / 1048576),⟨rfl,rfl,⟨a8 rfl rfl rfl (a5N (by omega)) rfl,trivial⟩,⟨⟨rfl,rfl,rfl,fun h=>h⟩,rfl,rfl,rfl,rfl,c6 (by omega),trivial⟩⟩,hst,?_⟩
   show w.length - (k+1)<w.length - k
   omega
  ·have hk:k=w.length:=by omega
   subst hk
   have e:=hI.back hB lv (by omega) (by omega)
   have e2:val w - (g - 1)*val v=val w - g*val v+val v:=by rw [Int.sub_mul];omega
   rw [e2,←e,←aZ1 hB.ok (by omega)]
   exact ⟨⟨[some 0],rfl,rfl,⟨a8 rfl rfl rfl rfl rfl,trivial⟩,rfl⟩⟩
abbrev aO1 (m n:Nat):S:=.tup [d8 (dg (m / n)),d8 (dg (m % n))]
theorem b84 (m n:Nat) (hn:0<n) (h:m<n) (lm:(dg m).length<=400000) (ln:(dg n).length<=400000):
 a9 Tryz.prog 208 [d8 (dg m),d8 (dg n)] [] (aO1 m n) []:=by
 have c:=a22 (dg m) (dg n) (a0V m) (a0V n) (by omega) (by omega)
 rw [k6,k6,a2H (by omega)] at c
 have e1:m / n=0:=Nat.div_eq_of_lt h
 have e2:m % n=m:=Nat.mod_eq_of_lt h
 unfold aO1
 rw [e1,e2,S3]
 (refine ac Tryz.func208 ?_;(conv=>whnf);repeat (refine zy ?_;conv=>whnf))
 repeat' (first|refine zz ?_|refine qp c ?_|refine qp (a8q _ (by omega)) ?_|refine zd ?_ ?_<;>intro h<;>try omega|refine zy ?_|fail)<;>conv=>whnf
 exact k5 ⟨rfl,rfl,trivial⟩
theorem b6V (m n:Nat) (hn:0<n) (h:n<=m) (hl:(dg n).length=1) (lm:(dg m).length<=400000):
 a9 Tryz.prog 208 [d8 (dg m),d8 (dg n)] [] (aO1 m n) []:=by
 have l2:((dg n).map d9).length=(dg n).length:=by simp
 have c:=a22 (dg m) (dg n) (a0V m) (a0V n) (by omega) (by omega)
 rw [k6,k6] at c
 have hc:0<=J8 m n:=by unfold J8;split<;>(try split)<;>omega
 have hn2:=K4 n
 rw [hl] at hn2
 have hn3:(n:Int)<1048576:=by simpa [pw] using hn2
 have hd:dg n=[(n:Int)]:=by
  rw [a5p hn,show n / 1048576=0 by omega,show n % 1048576=n by omega];rfl
 have sh:=aV1 (dg m) n (o8 m) (by omega) (by omega) hn3
 rw [k6] at sh
 have e1:((m:Int) / n).toNat=m / n:=by rw [← Int.natCast_ediv];rfl
 have e2:(m:Int) % n=((m % n:Nat):Int):=by simp
 rw [e1,e2] at sh
 have hr:m % n<n:=Nat.mod_lt _ hn
 have t:=a36 [((m % n:Nat):Int)] (by simp)
 rw [H9 (by intro x hx;simp at hx;omega)] at t
 have e3:(val [((m % n:Nat):Int)]).toNat=m % n:=by simp only [val];omega
 rw [e3] at t
 (refine ac Tryz.func208 ?_;(conv=>whnf);repeat (refine zy ?_;conv=>whnf))
 repeat' (first|refine zz ?_|refine qp c ?_|refine qp sh ?_|refine qp hd ?_|refine p4 (x:=(n:Int)) (by omega) (by rw [hd];rfl) ?_|refine .inl ⟨_,_,Z5 t ⟨a0q (aG1 rfl),trivial⟩ rfl,?_⟩|refine zd ?_ ?_<;>intro h<;>try omega|refine zy ?_|fail)<;>conv=>whnf
 all_goals (first|omega|exact k5 ⟨rfl,rfl,trivial⟩)
theorem b8b {n k:Nat} {top:Int} (hn:0<n) (ht:dat (dg n) ((dg n).length - 1)=top) (hk:k<=19) (h1:top*2 ^ k<1048576) (h2:¬top*2 ^ k<524288):
 (dg (n*2 ^ k)).length=(dg n).length∧524288<=dat (dg (n*2 ^ k)) ((dg n).length - 1):=by
 have hl:(dg n).length≠0:=by rw [Ne,List.length_eq_zero_iff,N2];omega
 obtain ⟨l,hl'⟩:∃l,(dg n).length=l+1:=⟨(dg n).length - 1,by omega⟩
 rw [hl',Nat.add_sub_cancel] at ht ⊢
 have e1:=o6 (dg n) l
 rw [lg4 (by omega),k6,ht] at e1
 have a1:=t4 ((o8 n).take l)
 have a2:=S9 ((o8 n).take l)
 rw [List.length_take,Nat.min_eq_left (by omega)] at a2
 have t0:=(o8 n).dat l
 rw [ht] at t0
 obtain ⟨T,rfl⟩:=Int.eq_ofNat_of_zero_le t0.1
 have hp:(0:Int)<2 ^ k:=Int.pow_pos (by decide)
 have hpp:=N5 l
 have e2:(2:Int) ^ k*2 ^ (20 - k)=1048576:=by rw [← Int.pow_add,show k+(20 - k)=20 by omega];rfl
 have h3:(T:Int)<2 ^ (20 - k):=by
  refine Int.lt_of_mul_lt_mul_left (a:=(2:Int) ^ k) ?_ (Int.le_of_lt hp)
  rw [e2,Int.mul_comm];exact h1
 have h4:((T:Int)+1)*2 ^ k<=1048576:=by
  have:=Int.mul_le_mul_of_nonneg_left (a:=(T:Int)+1) (b:=2 ^ (20 - k)) (c:=2 ^ k) (by omega) (Int.le_of_lt hp)
  rw [e2,Int.mul_comm] at this;exact this
 have hV:(((n*2 ^ k:Nat)):Int)=n*2 ^ k:=by simp
 have h5:((n*2 ^ k:Nat):Int)<pw (l+1):=by
  rw [hV,D7]
  have b1:(n:Int)+1<=pw l*(T+1):=by rw [Int.mul_add];omega
  have b2:=Int.mul_le_mul_of_nonneg_right (c:=(2:Int) ^ k) b1 (Int.le_of_lt hp)
  have b3:=Int.mul_le_mul_of_nonneg_left (c:=pw l) h4 (Int.le_of_lt hpp)
  rw [← Int.mul_assoc] at b3
  rw [Int.add_mul] at b2
  omega
 have h6:pw l*524288<=((n*2 ^ k:Nat):Int):=by
  rw [hV]
  have b1:pw l*T<=(n:Int):=by omega
  have b2:=Int.mul_le_mul_of_nonneg_right (c:=(2:Int) ^ k) b1 (Int.le_of_lt hp)
  have b3:=Int.mul_le_mul_of_nonneg_left (a:=524288) (b:=(T:Int)*2 ^ k) (c:=pw l) (by omega) (Int.le_of_lt hpp)
  rw [← Int.mul_assoc] at b3
  omega
 have h7:(dg (n*2 ^ k)).length=l+1:=by
  have c1:=L1 h5
  rcases Nat.lt_or_ge (dg (n*2 ^ k)).length (l+1) with c2|c2
  ·have c3:=K4 (n*2 ^ k)
   have c4:=a0C (show (dg (n*2 ^ k)).length<=l by omega)
   omega
  ·omega
 refine ⟨h7,?_⟩
 have f1:=o6 (dg (n*2 ^ k)) l
 rw [lg4 (by omega),k6] at f1
 have f2:=S9 ((o8 (n*2 ^ k)).take l)
 rw [List.length_take,Nat.min_eq_left (by omega)] at f2
 rcases Int.lt_or_le (dat (dg (n*2 ^ k)) l) 524288 with c|c
 ·exfalso
  have:=Int.mul_le_mul_of_nonneg_left (a:=dat (dg (n*2 ^ k)) l+1) (b:=524288) (c:=pw l) (by omega) (Int.le_of_lt hpp)
  rw [Int.mul_add] at this
  omega
 ·exact c
theorem b2n {a a' b b':Nat} {x y:S} (h1:a=a') (h2:b=b'):[S.c (.own 0 a b false),x,y]=[S.c (.own 0 a' b' false),x,y]:=by rw [h1,h2]
theorem aI7 {V W v1 top g r:Int} (hG:U3 V W v1 top g r) (hV:0<V) (hW:0<=W) (h1:g<1048576) (h2:g*V<=W+V):
 0<=S7 W V g∧S7 W V g<1048576∧0<=W - S7 W V g*V∧W - S7 W V g*V<V:=by
 have h3:=hG.hi
 have h4:=hG.g0
 rw [Int.add_mul,Int.one_mul] at h3
 unfold S7
 by_cases hc:g*V<=W
 ·rw [if_pos hc];omega
 ·rw [if_neg hc,Int.sub_mul,Int.one_mul]
  have:g≠0:=by rintro rfl;simp at hc;omega
  omega
set_option maxHeartbeats 4000000 in
theorem b73 (m n:Nat) (hn:0<n) (hmn:n<=m) (hl:2<=(dg n).length) (lm:(dg m).length<=300000) (ln:(dg n).length<=300000):
 a9 Tryz.prog 208 [d8 (dg m),d8 (dg n)] [] (aO1 m n) []:=by
 have l1:((dg m).map d9).length=(dg m).length:=by simp
 have l2:((dg n).map d9).length=(dg n).length:=by simp
 have c:=a22 (dg m) (dg n) (a0V m) (a0V n) (by omega) (by omega)
 rw [k6,k6] at c
 have hc:0<=J8 m n:=by unfold J8;split<;>(try split)<;>omega
 have ht0:=(o8 n).dat ((dg n).length - 1)
 have ht1:dat (dg n) ((dg n).length - 1)≠0:=(a0V n).2 _ (s7 (by omega))
 generalize htop:dat (dg n) ((dg n).length - 1)=top at ht0 ht1
 (refine ac Tryz.func208 ?_;(conv=>whnf);repeat (refine zy ?_;conv=>whnf))
 repeat' (first|refine zz ?_|refine qp c ?_|refine zd ?_ ?_<;>intro h<;>try omega|refine zy ?_|fail)<;>conv=>whnf
 refine k8 c8 (σ:=Nat) (fun k=>([d8 (dg m),d8 (dg n),J,J,J,J,J,J,a7 .i64 (2 ^ k),J,J,J,J,J,J,J,J,J,J,J,J,J,J,J,J,J,J,J,J,J,J,J,J,J,J,J,J,J,J,J,J,J,J,J,J,J,J,J,J,J,J,J,J,J,J,J,J,J,J,J,J,J,J,J,J,J,J,J,J,J,J,J,J,J,J,J,J,J,J,J,J,J,J,J,J,J,J,J,J,J,J,J,J,J,J,J,J,J,J,J,J,J,J,J,J,J,J,J,J,J,J,J,J,J,J,J,J,J,J,J,J,J,J,J,J,J,J,J,J,J,J,J,J,J,J,J,J,J,J,J,J,J,J,J,J,J,J,J,J,J,J,J,J,J,J,J,J,J,J,J,J,J,J,J,J,J,J,J,J,J],[])) (fun k=>k<=19∧top*2 ^ k<1048576) (fun k=>20 - k) 0 []
  ⟨by omega,by omega⟩ ⟨rfl,rfl,trivial,⟨g9 rfl,g9 rfl,rfl,trivial⟩⟩ ?_
 rintro k ⟨hk1,hk2⟩
 have hk1:k<=19:=hk1
 have hk2:top*2 ^ k<1048576:=hk2
 have hp0:(0:Int)<2 ^ k:=Int.pow_pos (by decide)
 have hpt:0<top*2 ^ k:=Int.mul_pos (by omega) hp0
 have hpk:(2:Int) ^ k<=524288:=by
  have:=Nat.pow_le_pow_right (n:=2) (by decide) hk1
  have e:((2 ^ k:Nat):Int)=2 ^ k:=by simp
  omega
 have hgl:(dg n)[(((((dg n).map d9).length:Nat):Int) - 1).toNat]? =some top:=by rw [l2,←htop];exact a6h (by omega)
 conv=>whnf
 repeat' (first|refine zz ?_|refine p4 (by omega) hgl ?_|refine zd ?_ ?_<;>intro h<;>try omega|refine zy ?_|fail)<;>conv=>whnf
 ·have hlt:top*2 ^ k<524288:=by omega
  refine ⟨[],k+1,⟨rfl,rfl,trivial,⟨rfl,rfl,c6 (Int.pow_succ _ _).symm,trivial⟩⟩,⟨?_,?_⟩,?_⟩
  ·rcases Nat.lt_or_ge k 19 with h1|h1
   ·exact h1
   ·have:k=19:=by omega
    subst this
    omega
  ·rw [Int.pow_succ,←Int.mul_assoc];omega
  ·show 20 - (k+1)<20 - k
   omega
 ·have hsh:Okd [(2:Int) ^ k]:=by intro x hx;simp at hx;omega
  have mu:=b7l (dg m) [2 ^ k] (o8 m) hsh (by omega) (by simp)
  have mv:=b6y (dg n) [2 ^ k] (o8 n) hsh (by omega) (by simp)
  have ev:val [(2:Int) ^ k]=2 ^ k:=by simp [val]
  rw [ev,k6] at mu mv
  generalize hU:((m:Int)*2 ^ k).toNat=U at mu
  generalize hV:((n:Int)*2 ^ k).toNat=V at mv
  refine .inr ⟨_,_,ah0 (aR6 mu ⟨ae1,a0q (aG1 rfl),trivial⟩) rfl rfl rfl rfl,?_⟩
  conv=>whnf
  have hVe:V=n*2 ^ k:=by
   have e:((n:Int)*2 ^ k)=((n*2 ^ k:Nat):Int):=by simp
   rw [← hV,e];exact Int.toNat_natCast _
  have hUe:U=m*2 ^ k:=by
   have e:((m:Int)*2 ^ k)=((m*2 ^ k:Nat):Int):=by simp
   rw [← hU,e];exact Int.toNat_natCast _
  obtain ⟨lV,hvt⟩:=b8b hn htop hk1 hk2 h
  rw [← hVe] at lV hvt
  have hp1:0<2 ^ k:=Nat.pow_pos (by decide)
  have lU3:(dg m).length<=(dg U).length:=m8 (by rw [hUe];exact Nat.le_mul_of_pos_right m hp1)
  have lU2:(dg U).length<=(dg m).length+1:=L1 (by
   have h1:=K4 m
   rw [D7,hUe]
   have h2:=Int.mul_le_mul_of_nonneg_left (a:=2 ^ k) (b:=1048576) (c:=(m:Int)+1) (by omega) (by omega)
   have h3:(((m*2 ^ k:Nat)):Int)=m*2 ^ k:=by simp
   rw [Int.add_mul] at h2
   omega)
  have lU1:(Y1 ((dg m).length+[(2:Int) ^ k].length) (dg U)).length<=300001:=by rw [al3 (by simpa using lU2)];simp;omega
  have l3:((dg V).map d9).length=(dg V).length:=by simp
  have lmn:(dg n).length<=(dg m).length:=m8 hmn
  have l4:(toC [[T.atm (Value.int .i64 0)]]).length=1:=rfl
  repeat' (first|refine zz ?_|refine qp (toC,Y1) ?_|refine qp toC ?_|refine o7 (by simp [toC,Y1]) (by simp [toC];omega) ?_|refine .inl ⟨_,_,Z5 mv ⟨ae1,a0q (aG1 rfl),trivial⟩ rfl,?_⟩|refine a2q (by omega) (by omega) (by omega) (by decide) ?_|refine zd ?_ ?_<;>intro h<;>try omega|refine zy ?_|fail)<;>conv=>whnf
  have hV0:0<V:=by rw [hVe];exact Nat.mul_pos hn hp1
  refine k8 c8 (σ:=Nat × List Int × List Int) (fun|(j,u,q)=>([J,J,J,J,J,J,J,J,a7 .i64 (2 ^ k),a0m 0 u,d8 (dg V),a7 .i64 (dg V).length,a0m 1 q,a7 .i64 ((j:Int) - 1),J,J,J,J,J,J,J,J,J,J,J,J,J,J,J,J,J,J,J,J,J,J,J,J,J,J,J,J,J,J,J,J,J,J,J,J,J,J,J,J,J,J,J,J,J,J,J,J,J,J,J,J,J,J,J,J,J,J,J,J,J,J,J,J,J,J,J,J,J,J,J,J,J,J,J,J,J,J,J,J,J,J,J,J,J,J,J,J,J,J,J,J,J,J,J,J,J,J,J,J,J,J,J,J,J,J,J,J,J,J,J,J,J,J,J,J,J,J,J,J,J,J,J,J,J,J,J,J,J,J,J,J,J,J,J,J,J,J,J,J,J,J,J,J,J,J,J,J,J,J,J,J,J,J,J,J],[o4 u,o4 q])) (fun x=>a8g U V ((dg U).length+1) (dg V).length x.1 x.2.1 x.2.2) (fun x=>x.1)
   ((dg U).length+1 - (dg V).length,dg U++[0],List.replicate ((dg U).length+1 - (dg V).length) 0) [some 1,some 2]
   (a8g.init hV0 (by omega)) ⟨rfl,rfl,⟨a8 rfl rfl rfl ?_ rfl,a8 rfl rfl rfl ?_ rfl,trivial⟩,⟨rfl,j9 rfl ?_,g9 rfl,c6 (by omega),j9 rfl ?_,c6 ?_,trivial⟩⟩ ?_
  ·simp [toC,C4,Y1,List.map_append,List.take_append,d9]
  ·show List.replicate _ _=_
   simp [toC,d9,A9]
  ·simp [toC]
  ·simp [toC]
  ·simp [toC]
  rintro ⟨j,u,q⟩ hD
  have hD:a8g U V ((dg U).length+1) (dg V).length j u q:=hD
  have hlu:=hD.lu
  have hlq:=hD.lq
  have hle:=hD.le
  have hdt:0<j->dat u (j - 1+(dg V).length)=dat u (j - 1+(dg V).length):=fun _=>rfl
  have gu0:0<j->u[0+(((j:Int) - 1)+(dg V).length).toNat]? =some (dat u (j - 1+(dg V).length)):=fun h=>J9 (by omega) (by omega)
  have gu1:0<j->u[0+(((j:Int) - 1)+(dg V).length - 1).toNat]? =some (dat u (j - 1+(dg V).length - 1)):=fun h=>J9 (by omega) (by omega)
  have d0:=hD.oku.dat (j - 1+(dg V).length)
  have d1:=hD.oku.dat (j - 1+(dg V).length - 1)
  have dv:=(o8 V).dat ((dg V).length - 1)
  have hvt2:524288<=dat (dg V) ((dg V).length - 1):=by rw [lV];exact hvt
  conv=>whnf
  repeat' (first|refine zz ?_|refine a01 (by omega) (by show _<((u.length:Nat):Int);omega) ?_|refine j6 (gu0 (by omega)) ?_|refine j6 (gu1 (by omega)) ?_|refine ⟨by decide,_,b2C (by omega) (by omega),?_⟩|refine ⟨_,b7E (by omega) (by omega) (by omega) (by omega),?_⟩|refine p4 (by omega) (a6h (by omega)) ?_|refine ⟨by omega,_,b2E (by omega) (by omega) (by omega),?_⟩|refine ah3 (by omega) ?_|refine zd ?_ ?_<;>intro h<;>try omega|refine zy ?_|fail)<;>conv=>whnf
  ·have hj:0<j:=by omega
   obtain ⟨i,rfl⟩:∃i,j=i+1:=⟨j - 1,by omega⟩
   simp only [Nat.add_sub_cancel] at *
   obtain ⟨L,hL⟩:∃L,(dg V).length=L+2:=⟨(dg V).length - 2,by omega⟩
   obtain ⟨w3,w2,w0,wv,wz,wlt⟩:=hD.window rfl
   generalize hw:(u.drop i).take ((dg V).length+1)=w at w3 w2 wv wlt
   have hwo:Okd w:=by rw [← hw];exact (hD.oku.drop i).take _
   have dw:∀t,t<=(dg V).length->dat w t=dat u (i+t):=fun t ht=>by
    rw [← hw];unfold dat
    rw [lg3,List.getElem?_take,if_pos (by omega),List.getElem?_drop,←lg3]
   have win:=Win.of (o8 V) hwo hL (by omega) (by rw [hL] at hvt2;exact hvt2) (by rw [k6];exact wlt)
   rw [dw (L+2) (by omega),dw (L+1) (by omega),dw L (by omega),k6] at win
   have eL1:(dg V).length - 1=L+1:=by omega
   have eu0:i+(L+2)=i+(dg V).length:=by omega
   have eu1:i+(L+1)=i+(dg V).length - 1:=by omega
   rw [eu0,eu1] at win
   generalize ht:dat u (i+(dg V).length)*1048576+dat u (i+(dg V).length - 1)=top2 at win
   have win':=win
   have ht0:=win.t0
   refine k8 c8 (σ:=Int × Int) (fun|(g,r)=>([J,J,J,J,J,J,J,J,a7 .i64 (2 ^ k),a0m 0 u,d8 (dg V),a7 .i64 (dg V).length,a0m 1 q,a7 .i64 i,J,a7 .i64 g,a7 .i64 r,J,J,J,J,J,J,J,J,J,J,J,J,J,J,J,J,J,J,J,J,J,J,J,J,J,J,J,J,J,J,J,J,J,J,J,J,J,J,J,J,J,J,J,J,J,J,J,J,J,J,J,J,J,J,J,J,J,J,J,J,J,J,J,J,J,J,J,J,J,J,J,J,J,J,J,J,J,J,J,J,J,J,J,J,J,J,J,J,J,J,J,J,J,J,J,J,J,J,J,J,J,J,J,J,J,J,J,J,J,J,J,J,J,J,J,J,J,J,J,J,J,J,J,J,J,J,J,J,J,J,J,J,J,J,J,J,J,J,J,J,J,J,J,J,J,J,J,J,J,J,J,J,J],[o4 u,o4 q])) (fun x=>U3 V (val w) (dat (dg V) (L+1)) top2 x.1 x.2) (fun x=>x.1.toNat)
    (top2 / dat (dg V) (L+1),top2 % dat (dg V) (L+1)) [some 0,some 1]
    (U3.init win) ⟨rfl,rfl,⟨a8 rfl rfl rfl rfl rfl,a8 rfl rfl rfl rfl rfl,trivial⟩,⟨rfl,j9 rfl rfl,g9 rfl,rfl,j9 rfl rfl,c6 (by omega),c6 ?_,c6 ?_,trivial⟩⟩ ?_
   ·rw [eL1]
   ·rw [eL1,Int.tmod_eq_emod_of_nonneg ht0]
   rintro ⟨g,r⟩ hG
   have hG:U3 V (val w) (dat (dg V) (L+1)) top2 g r:=hG
   have hg0:=hG.g0
   have hgu:=hG.gu
   have hr0:=hG.r0
   have hru:=hG.ru
   have dv2:=(o8 V).dat L
   have dv1:=(o8 V).dat (L+1)
   have du2:=hD.oku.dat (i+L)
   have hgm:0<=g*dat (dg V) L∧g*dat (dg V) L<=2097152*1048576:=⟨Int.mul_nonneg hg0 dv2.1,Int.mul_le_mul hgu (by omega) dv2.1 (by omega)⟩
   have gv2:(dg V)[((((dg V).length:Nat):Int) - 2).toNat]? =some (dat (dg V) L):=by rw [show ((((dg V).length:Nat):Int) - 2).toNat=L by omega];exact s7 (by omega)
   have gv1:(dg V)[((((dg V).length:Nat):Int) - 1).toNat]? =some (dat (dg V) (L+1)):=by rw [show ((((dg V).length:Nat):Int) - 1).toNat=L+1 by omega];exact s7 (by omega)
   have gu2:u[0+((i:Int)+((dg V).length:Nat) - 2).toNat]? =some (dat u (i+L)):=J9 (by omega) (by omega)
   conv=>whnf
   repeat' (first|refine zz ?_|refine a01 (by omega) (by show _<((u.length:Nat):Int);omega) ?_|refine p4 (by omega) gv2 ?_|refine p4 (by omega) gv1 ?_|refine j6 gu2 ?_|refine ⟨by decide,_,b2C (by omega) (by omega),?_⟩|refine ⟨_,b7E (by omega) (by omega) (by omega) (by omega),?_⟩|refine a3s (by omega) (by omega) (by show _<=((u.length:Nat):Int);omega) ?_|refine zd ?_ ?_<;>intro h<;>try omega|refine zy ?_|fail)<;>conv=>whnf
   ·have hgc:1048576<=g:=by omega
    have hst:=U3.step win hG (.inl hgc) (t4 hwo)
    exact ⟨[some 0,some 1],(g - 1,r+dat (dg V) (L+1)),⟨rfl,rfl,⟨a8 rfl rfl rfl rfl rfl,a8 rfl rfl rfl rfl rfl,trivial⟩,⟨rfl,j9 rfl rfl,rfl,rfl,j9 rfl rfl,rfl,rfl,rfl,trivial⟩⟩,hst,by have:=hst.g0;show (g - 1).toNat<g.toNat;omega⟩
   ·have hgc:r<1048576∧r*1048576+dat u (i+L)<g*dat (dg V) L:=by omega
    have hst:=U3.step win hG (.inr hgc) (t4 hwo)
    exact ⟨[some 0,some 1],(g - 1,r+dat (dg V) (L+1)),⟨rfl,rfl,⟨a8 rfl rfl rfl rfl rfl,a8 rfl rfl rfl rfl rfl,trivial⟩,⟨rfl,j9 rfl rfl,rfl,rfl,j9 rfl rfl,rfl,rfl,rfl,trivial⟩⟩,hst,by have:=hst.g0;show (g - 1).toNat<g.toNat;omega⟩
   all_goals
    have hgc:¬(1048576<=g∨(r<1048576∧r*1048576+dat u (i+L)<g*dat (dg V) L)):=by omega
    obtain ⟨hg1,hgV⟩:=U3.fin win hG hgc (by
     have h1:=win.Vl
     have h3:=win.v1l
     have h2:=Int.mul_le_mul_of_nonneg_left (a:=1048576) (b:=dat (dg V) (L+1)*1048576+dat (dg V) L) (by omega) (Int.le_of_lt win.P0)
     omega)
    have st:=b2h (u.take i) w (u.drop (i+((dg V).length+1))) (dg V) g hwo (o8 V) (by omega) (by omega) ⟨hg0,hg1⟩ (by rw [k6];exact hgV)
    rw [k6] at st
    obtain ⟨q0,q1,q2,q3⟩:=aI7 hG (by omega) (t4 hwo) hg1 hgV
    have hds:=hD.step rfl hV0 ⟨q0,q1⟩ (by rw [hw];exact q2) (by rw [hw];exact q3)
    rw [hw] at hds
    generalize S7 (val w) V g=Q at st q0 q1 q2 q3 hds
    rw [← w3,w2] at st
    generalize hu':u.take i++Y1 ((dg V).length+1) (dg (val w - Q*V).toNat)++u.drop (i+((dg V).length+1))=u' at st hds
    refine .inr ⟨_,_,U0 (H':=[o4 u',o4 q]) [0] st (b2n (by rw [w0];omega) (by omega)) rfl rfl (by decide) ?_ (by simp) (by simp) rfl rfl rfl ?_ ?_,?_⟩
    ·intro i k hk
     match i,hk with
     |0,hk=>
      injection hk with hk
      subst hk
      exact ⟨rfl,rfl,a2x _,_,rfl,D4 rfl⟩
    ·intro i k hk
     match i,hk with
     |0,hk=>
      injection hk with hk
      subst hk
      exact ⟨_,rfl,D4 rfl⟩
    ·intro j hj hn
     match j,hj with
     |0,_=>simp at hn
     |1,_=>rfl
    conv=>whnf
    have hlu':=hds.lu
    refine zz ?_
    conv=>whnf
    repeat' (first|refine zz ?_|refine j6 (J9 rfl (by omega)) ?_|refine zd ?_ ?_<;>intro h<;>try omega|refine zy ?_|fail)<;>conv=>whnf
    exact ⟨[some 0,some 1],(i,u',q.set i Q),⟨rfl,rfl,⟨a8 rfl rfl rfl rfl rfl,a8 rfl rfl rfl (H7 (i:=i) (n:=(i:Int)) (by simp)) rfl,trivial⟩,⟨rfl,j9 rfl (hlu.trans hlu'.symm),rfl,rfl,j9 rfl (by simp),rfl,trivial⟩⟩,hds,by show i<i+1;omega⟩
  ·have hj:j=0:=by omega
   subst hj
   obtain ⟨fq,fu⟩:=hD.fin hV0
   have tu:=a36 u (by omega)
   rw [H9 hD.oku,fu,Int.toNat_natCast] at tu
   have tq:=a36 q (by omega)
   rw [H9 hD.okq,fq,Int.toNat_natCast] at tq
   have lUV:(dg (U % V)).length<=(dg U).length:=m8 (Nat.mod_le _ _)
   have sh:=aV1 (dg (U % V)) (2 ^ k) (o8 _) (by omega) (by omega) (by omega)
   have e1:U % V / 2 ^ k=m % n:=by rw [hUe,hVe,Nat.mul_mod_mul_right,Nat.mul_div_cancel _ hp1]
   have e2:U / V=m / n:=by rw [hUe,hVe,Nat.mul_div_mul_right _ _ hp1]
   have e3:((U % V:Nat):Int) / 2 ^ k=((m % n:Nat):Int):=by rw [← e1];simp
   rw [k6,e3,Int.toNat_natCast] at sh
   rw [e2] at tq
   refine .inr ⟨_,_,u0 [0] tu ⟨a0q (t5 (by simp) rfl (by intro h;cases h) rfl rfl (by simp)),trivial⟩ rfl,?_⟩
   conv=>whnf
   repeat' (first|refine zz ?_|refine qp sh ?_|refine zd ?_ ?_<;>intro h<;>try omega|refine zy ?_|fail)<;>conv=>whnf
   refine .inr ⟨_,_,u0 [1] tq ⟨a0q (t5 (by simp) rfl (by intro h;cases h) rfl rfl (by simp)),trivial⟩ rfl,?_⟩
   conv=>whnf
   exact k5 ⟨rfl,rfl,trivial⟩
theorem b6r (m n:Nat) (hn:0<n) (lm:(dg m).length<=300000) (ln:(dg n).length<=300000):
 a9 Tryz.prog 208 [d8 (dg m),d8 (dg n)] [] (aO1 m n) []:=by
 rcases Nat.lt_or_ge m n with h|h
 ·exact b84 m n hn h (by omega) (by omega)
 ·have h1:(dg n).length≠0:=by rw [Ne,List.length_eq_zero_iff,N2];omega
  by_cases hl:(dg n).length=1
  ·exact b6V m n hn h hl (by omega)
  ·exact b73 m n hn h (by omega) lm ln
set_option maxHeartbeats 1000000
theorem b3M (m n:Nat) (lm:(dg m).length<=300000) (ln:(dg n).length<=300000):
 a9 Tryz.prog 215 [d8 (dg m),d8 (dg n)] [] (d8 (dg (m+n))) []:=by
 have h:=b8p (dg m) (dg n) (o8 m) (o8 n) (by omega) (by omega)
 rw [k6,k6,show ((m:Int)+n).toNat=m+n by omega] at h
 exact h
theorem a9z (m n:Nat) (lm:(dg m).length<=300000) (h:n<=m):
 a9 Tryz.prog 216 [d8 (dg m),d8 (dg n)] [] (d8 (dg (m - n))) []:=by
 have h:=b8H (dg m) (dg n) (o8 m) (o8 n) (by omega) (m8 h) (by rw [k6,k6];omega)
 rw [k6,k6,show ((m:Int) - n).toNat=m - n by omega] at h
 exact h
theorem b79 (m n:Nat) (lm:(dg m).length<=300000) (ln:(dg n).length<=300000):
 a9 Tryz.prog 266 [d8 (dg m),d8 (dg n)] [] (d8 (dg (m*n))) []:=by
 have h:=b6y (dg m) (dg n) (o8 m) (o8 n) (by omega) (by omega)
 rw [k6,k6,show ((m:Int)*n).toNat=m*n by rw [← Int.natCast_mul];rfl] at h
 exact h
theorem b7U (m n:Nat) (lm:(dg m).length<=300000) (ln:(dg n).length<=300000):
 a9 Tryz.prog 212 [d8 (dg m),d8 (dg n)] [] (a7 .i64 (J8 m n)) []:=by
 have h:=a22 (dg m) (dg n) (a0V m) (a0V n) (by omega) (by omega)
 rw [k6,k6] at h
 exact h
theorem u5 (s:Int) (k:Nat) (h:s=1∨s=-1∨k=0) (lk:(dg k).length<=700000):
 a9 Tryz.prog 209 [a7 .i64 s,d8 (dg k)] [] (bgS (bz (s*k))) []:=by
 have e:=ay8 s (dg k) (by omega)
 rw [aK7 (o8 k) (by rw [k6];omega),k6] at e
 exact e
def Sg (s:Int) (m:Nat):Prop:=(s=0∧m=0)∨(s=1∧0<m)∨(s=-1∧0<m)
theorem a4W (x:Int):Sg x.sign x.natAbs:=by
 rcases B2 x with ⟨e,h1⟩|⟨e,h1⟩|⟨e,h1⟩
 ·exact .inl ⟨e,by omega⟩
 ·exact .inr (.inl ⟨e,by omega⟩)
 ·exact .inr (.inr ⟨e,by omega⟩)
theorem a6p {s:Int} {m:Nat} (h:Sg s m):bz (s*m)=⟨s,dg m⟩:=by
 rcases h with ⟨rfl,rfl⟩|⟨rfl,h⟩|⟨rfl,h⟩
 ·rfl
 ·unfold bz;rw [Int.one_mul,Int.sign_eq_one_of_pos (by omega)];rfl
 ·unfold bz;rw [Int.sign_eq_neg_one_of_neg (by omega)];congr 2;omega
theorem a1o (s:Int) (m:Nat) (h:Sg s m) (lm:(dg m).length<=300000):a9 Tryz.prog 135 [bgS ⟨s,dg m⟩] [] (f5 true) []:=by
 have:=a1Z ⟨s,dg m⟩ (show (dg m).length<=1000000 by omega)
 rw [← a6p h,V7,a6p h] at this
 exact this
theorem a5i {b b':Bg} {e:Int} {H1:Hp} (h:b=b'):Fin 0 (.tup [bgS b,a7 .i64 e]) H1 (.tup [bgS b',a7 .i64 e]) []:=by
 subst h;exact k5 ⟨⟨rfl,rfl,trivial⟩,rfl,trivial⟩
theorem D8 {a b c d:Nat} (h:a<=max b c+1) (h2:max b c+1<=d):a<=d:=Nat.le_trans h h2
theorem b7f (s t:Int) (m n:Nat) (hs:Sg s m) (ht:Sg t n) (lm:(dg m).length<=200000) (ln:(dg n).length<=200000):
 a9 Tryz.prog 142 [bgS ⟨s,dg m⟩,bgS ⟨t,dg n⟩] [] (.tup [bgS (bz (s*m+t*n)),a7 .i64 0]) []:=by
 have r1:=a1o s m hs (by omega)
 have r2:=a1o t n ht (by omega)
 have ad:=b3M m n (by omega) (by omega)
 have c:=b7U m n (by omega) (by omega)
 have ls:=a2Q m n
 have fin:∀(z:Int) (H1:Hp),z=s*m+t*n->Fin 0 (.tup [bgS (if true then bz z else ⟨0,[]⟩),a7 .i64 0]) H1 (.tup [bgS (bz (s*m+t*n)),a7 .i64 0]) []:=fun z H1 h=>a5i (by rw [h];rfl)
 rcases hs with ⟨rfl,rfl⟩|⟨rfl,h1⟩|⟨rfl,h1⟩<;>rcases ht with ⟨rfl,rfl⟩|⟨rfl,h2⟩|⟨rfl,h2⟩
 case inl.inl=>
  have sg:=u5 (0) _ (by omega) (D8 ls (by omega))
  have co:=a2U (0) (0)
  (refine ac Tryz.func142 ?_;(conv=>whnf);repeat (refine zy ?_;conv=>whnf))
  repeat' (first|refine zz ?_|refine qp r1 ?_|refine qp r2 ?_|refine qp ad ?_|refine qp sg ?_|refine qp (F5 true _) ?_|refine qp co ?_|refine ⟨_,y9 (y:=0) rfl (by decide) (by decide),?_⟩|refine zd ?_ ?_<;>intro h<;>try omega|refine zy ?_|fail)<;>conv=>whnf
  all_goals first|omega|exact fin _ _ (by omega)
 case inl.inr.inl=>
  have sg:=u5 (1) _ (by omega) (D8 ls (by omega))
  have co:=a2U (0) (1)
  (refine ac Tryz.func142 ?_;(conv=>whnf);repeat (refine zy ?_;conv=>whnf))
  repeat' (first|refine zz ?_|refine qp r1 ?_|refine qp r2 ?_|refine qp ad ?_|refine qp sg ?_|refine qp (F5 true _) ?_|refine qp co ?_|refine ⟨_,y9 (y:=0) rfl (by decide) (by decide),?_⟩|refine zd ?_ ?_<;>intro h<;>try omega|refine zy ?_|fail)<;>conv=>whnf
  all_goals first|omega|exact fin _ _ (by omega)
 case inl.inr.inr=>
  have sg:=u5 (-1) _ (by omega) (D8 ls (by omega))
  have co:=a2U (0) (-1)
  (refine ac Tryz.func142 ?_;(conv=>whnf);repeat (refine zy ?_;conv=>whnf))
  repeat' (first|refine zz ?_|refine qp r1 ?_|refine qp r2 ?_|refine qp ad ?_|refine qp sg ?_|refine qp (F5 true _) ?_|refine qp co ?_|refine ⟨_,y9 (y:=0) rfl (by decide) (by decide),?_⟩|refine zd ?_ ?_<;>intro h<;>try omega|refine zy ?_|fail)<;>conv=>whnf
  all_goals first|omega|exact fin _ _ (by omega)
 case inr.inl.inl=>
  have sg:=u5 (1) _ (by omega) (D8 ls (by omega))
  have co:=a2U (1) (0)
  (refine ac Tryz.func142 ?_;(conv=>whnf);repeat (refine zy ?_;conv=>whnf))
  repeat' (first|refine zz ?_|refine qp r1 ?_|refine qp r2 ?_|refine qp ad ?_|refine qp sg ?_|refine qp (F5 true _) ?_|refine qp co ?_|refine ⟨_,y9 (y:=0) rfl (by decide) (by decide),?_⟩|refine zd ?_ ?_<;>intro h<;>try omega|refine zy ?_|fail)<;>conv=>whnf
  all_goals first|omega|exact fin _ _ (by omega)
 case inr.inr.inl=>
  have sg:=u5 (-1) _ (by omega) (D8 ls (by omega))
  have co:=a2U (-1) (0)
  (refine ac Tryz.func142 ?_;(conv=>whnf);repeat (refine zy ?_;conv=>whnf))
  repeat' (first|refine zz ?_|refine qp r1 ?_|refine qp r2 ?_|refine qp ad ?_|refine qp sg ?_|refine qp (F5 true _) ?_|refine qp co ?_|refine ⟨_,y9 (y:=0) rfl (by decide) (by decide),?_⟩|refine zd ?_ ?_<;>intro h<;>try omega|refine zy ?_|fail)<;>conv=>whnf
  all_goals first|omega|exact fin _ _ (by omega)
 case inr.inl.inr.inl=>
  have sg:=u5 (1) _ (by omega) (D8 ls (by omega))
  have co:=a2U (1) (1)
  (refine ac Tryz.func142 ?_;(conv=>whnf);repeat (refine zy ?_;conv=>whnf))
  repeat' (first|refine zz ?_|refine qp r1 ?_|refine qp r2 ?_|refine qp ad ?_|refine qp sg ?_|refine qp (F5 true _) ?_|refine qp co ?_|refine ⟨_,y9 (y:=1) rfl (by decide) (by decide),?_⟩|refine zd ?_ ?_<;>intro h<;>try omega|refine zy ?_|fail)<;>conv=>whnf
  all_goals first|omega|exact fin _ _ (by omega)
 case inr.inr.inr.inr=>
  have sg:=u5 (-1) _ (by omega) (D8 ls (by omega))
  have co:=a2U (-1) (-1)
  (refine ac Tryz.func142 ?_;(conv=>whnf);repeat (refine zy ?_;conv=>whnf))
  repeat' (first|refine zz ?_|refine qp r1 ?_|refine qp r2 ?_|refine qp ad ?_|refine qp sg ?_|refine qp (F5 true _) ?_|refine qp co ?_|refine ⟨_,y9 (y:=1) rfl (by decide) (by decide),?_⟩|refine zd ?_ ?_<;>intro h<;>try omega|refine zy ?_|fail)<;>conv=>whnf
  all_goals first|omega|exact fin _ _ (by omega)
 case inr.inl.inr.inr=>
  rcases Nat.lt_or_ge m n with hmn|hmn
  ·rw [a2H (by omega)] at c
   have l3:=m8 (Nat.sub_le n m)
   (refine ac Tryz.func142 ?_;(conv=>whnf);repeat (refine zy ?_;conv=>whnf))
   repeat' (first|refine zz ?_|refine qp r1 ?_|refine qp r2 ?_|refine qp c ?_|refine qp (a9z n m (by omega) (by omega)) ?_|refine qp (u5 (-1) (n - m) (by omega) (by omega)) ?_|refine qp (F5 true _) ?_|refine ⟨_,y9 (y:=-1) rfl (by decide) (by decide),?_⟩|refine zd ?_ ?_<;>intro h<;>try omega|refine zy ?_|fail)<;>conv=>whnf
   all_goals first|omega|exact fin _ _ (by omega)
  ·have hc:0<=J8 m n:=by unfold J8;split<;>(try split)<;>omega
   have l3:=m8 (Nat.sub_le m n)
   (refine ac Tryz.func142 ?_;(conv=>whnf);repeat (refine zy ?_;conv=>whnf))
   repeat' (first|refine zz ?_|refine qp r1 ?_|refine qp r2 ?_|refine qp c ?_|refine qp (a9z m n (by omega) (by omega)) ?_|refine qp (u5 (1) (m - n) (by omega) (by omega)) ?_|refine qp (F5 true _) ?_|refine ⟨_,y9 (y:=-1) rfl (by decide) (by decide),?_⟩|refine zd ?_ ?_<;>intro h<;>try omega|refine zy ?_|fail)<;>conv=>whnf
   all_goals first|omega|exact fin _ _ (by omega)
 case inr.inr.inr.inl=>
  rcases Nat.lt_or_ge m n with hmn|hmn
  ·rw [a2H (by omega)] at c
   have l3:=m8 (Nat.sub_le n m)
   (refine ac Tryz.func142 ?_;(conv=>whnf);repeat (refine zy ?_;conv=>whnf))
   repeat' (first|refine zz ?_|refine qp r1 ?_|refine qp r2 ?_|refine qp c ?_|refine qp (a9z n m (by omega) (by omega)) ?_|refine qp (u5 (1) (n - m) (by omega) (by omega)) ?_|refine qp (F5 true _) ?_|refine ⟨_,y9 (y:=-1) rfl (by decide) (by decide),?_⟩|refine zd ?_ ?_<;>intro h<;>try omega|refine zy ?_|fail)<;>conv=>whnf
   all_goals first|omega|exact fin _ _ (by omega)
  ·have hc:0<=J8 m n:=by unfold J8;split<;>(try split)<;>omega
   have l3:=m8 (Nat.sub_le m n)
   (refine ac Tryz.func142 ?_;(conv=>whnf);repeat (refine zy ?_;conv=>whnf))
   repeat' (first|refine zz ?_|refine qp r1 ?_|refine qp r2 ?_|refine qp c ?_|refine qp (a9z m n (by omega) (by omega)) ?_|refine qp (u5 (-1) (m - n) (by omega) (by omega)) ?_|refine qp (F5 true _) ?_|refine ⟨_,y9 (y:=-1) rfl (by decide) (by decide),?_⟩|refine zd ?_ ?_<;>intro h<;>try omega|refine zy ?_|fail)<;>conv=>whnf
   all_goals first|omega|exact fin _ _ (by omega)
theorem sgm (x:Int):x.sign*x.natAbs=x:=Int.sign_mul_natAbs x
theorem a3S (x:Int) (lx:bl x<=300000):a9 Tryz.prog 135 [bgS (bz x)] [] (f5 true) []:=a1o _ _ (a4W x) lx
theorem b8f (x y:Int) (lx:bl x<=200000) (ly:bl y<=200000):a9 Tryz.prog 142 [bgS (bz x),bgS (bz y)] [] (.tup [bgS (bz (x+y)),a7 .i64 0]) []:=by
 have h:=b7f _ _ _ _ (a4W x) (a4W y) lx ly
 rw [sgm,sgm] at h
 exact h
theorem a7c (x:Int) (lx:bl x<=300000):a9 Tryz.prog 141 [bgS (bz x)] [] (bgS (bz (-x))) []:=by
 have h:=b7n (bz x) (show bl x<=1000000 by omega)
 unfold b1B at h
 rw [V7,a3f] at h
 exact h
abbrev bg2 (s:Int) (l:List Int):S:=.agg [.t (ti s),.t (F8 l)]
theorem b7u (s t:Int) (m n:Nat) (hs:Sg s m) (ht:Sg t n) (lm:(dg m).length<=200000) (ln:(dg n).length<=200000):
 a9 Tryz.prog 213 [bgS ⟨s,dg m⟩,bgS ⟨t,dg n⟩] [] (.tup [bgS (bz ((s*t)*(m*n:Nat))),a7 .i64 0]) []:=by
 have r1:=a1o s m hs (by omega)
 have r2:=a1o t n ht (by omega)
 have mu:=b79 m n (by omega) (by omega)
 have ls:=a2N m n
 have hst:-1<=s*t∧s*t<=1∧(s*t=1∨s*t=-1∨m*n=0):=by
  rcases hs with ⟨rfl,rfl⟩|⟨rfl,h1⟩|⟨rfl,h1⟩<;>rcases ht with ⟨rfl,rfl⟩|⟨rfl,h2⟩|⟨rfl,h2⟩<;>simp
 obtain ⟨q1,q2,q3⟩:=hst
 have sg:=u5 (s*t) (m*n) q3 (by omega)
 have ck:=F5 true (bz ((s*t)*(m*n:Nat)))
 (refine ac Tryz.func213 ?_;(conv=>whnf);repeat (refine zy ?_;conv=>whnf))
 repeat' (first|refine zz ?_|refine qp r1 ?_|refine qp r2 ?_|refine qp mu ?_|refine qp sg ?_|refine qp ck ?_|refine ⟨_,y9 (y:=s*t) rfl (by omega) (by omega),?_⟩|refine zd ?_ ?_<;>intro h<;>try omega|refine zy ?_|fail)<;>conv=>whnf
 all_goals first|(exfalso;simp_all;done)|exact a5i rfl
theorem b7w (x y:Int) (lx:bl x<=200000) (ly:bl y<=200000):a9 Tryz.prog 213 [bgS (bz x),bgS (bz y)] [] (.tup [bgS (bz (x*y)),a7 .i64 0]) []:=by
 have h:=b7u _ _ _ _ (a4W x) (a4W y) lx ly
 have e:(x.sign*y.sign)*((x.natAbs*y.natAbs:Nat):Int)=x*y:=by
  rw [Int.natCast_mul]
  have h1:=sgm x
  have h2:=sgm y
  grind
 rw [e] at h
 exact h
theorem aQ5 (x y:Int) (lx:bl x<=300000) (ly:bl y<=300000):a9 Tryz.prog 139 [bgS (bz x),bgS (bz y)] [] (a7 .i64 (J8 x y)) []:=by
 have h:=aN2 (bz x) (bz y) (show bl x<=1000000 by omega) (show bl y<=1000000 by omega)
 unfold b14 at h
 rw [V7,V7,a3f,a3f] at h
 exact h
theorem b03 {b b' c c':Bg} {e:Int} {H1:Hp} (h:b=b') (h2:c=c'):Fin 0 (.tup [bgS b,bgS c,a7 .i64 e]) H1 (.tup [bgS b',bgS c',a7 .i64 e]) []:=by
 subst h h2;exact k5 ⟨⟨rfl,rfl,trivial⟩,⟨rfl,rfl,trivial⟩,rfl,trivial⟩
theorem b7a (s:Int) (m n:Nat) (hs:Sg s m) (hn:0<n) (lm:(dg m).length<=200000) (ln:(dg n).length<=200000):
 a9 Tryz.prog 217 [bgS ⟨s,dg m⟩,bgS ⟨1,dg n⟩] [] (.tup [bgS (bz (s*m / n)),bgS (bz (s*m % n)),a7 .i64 0]) []:=by
 show a9 Tryz.prog 217 [bg2 s (dg m),bg2 1 (dg n)] [] _ []
 have r1:=a1o s m hs (by omega)
 have r2:=a1o 1 n (.inr (.inl ⟨rfl,hn⟩)) (by omega)
 have dv:=b6r m n hn (by omega) (by omega)
 have lq:=m8 (Nat.div_le_self m n)
 have hr:=Nat.mod_lt m hn
 have lr:=m8 (Nat.le_of_lt hr)
 have lr2:((dg (m % n)).map d9).length=(dg (m % n)).length:=by simp
 have hz:(dg (m % n)).length=0↔m % n=0:=by rw [List.length_eq_zero_iff,N2]
 have hm:=Nat.div_add_mod m n
 have fin:∀(a b:Int) (H1:Hp),a=s*m / n->b=s*m % n->Fin 0 (.tup [bgS (bz a),bgS (bz b),a7 .i64 0]) H1 (.tup [bgS (bz (s*m / n)),bgS (bz (s*m % n)),a7 .i64 0]) []:=fun a b H1 h1 h2=>b03 (by rw [h1]) (by rw [h2])
 rcases hs with ⟨rfl,rfl⟩|⟨rfl,h1⟩|⟨rfl,h1⟩
 ·have s1:=u5 0 (0 / n) (by simp) (by omega)
  have s2:=u5 0 (0 % n) (by simp) (by omega)
  (refine ac Tryz.func217 ?_;(conv=>whnf);repeat (refine zy ?_;conv=>whnf))
  repeat' (first|refine zz ?_|refine qp r1 ?_|refine qp r2 ?_|refine qp dv ?_|refine qp s1 ?_|refine qp s2 ?_|refine ⟨_,y9 (y:=0) rfl (by decide) (by decide),?_⟩|refine zd ?_ ?_<;>intro h<;>try omega|refine zy ?_|fail)<;>conv=>whnf
  all_goals first|omega|exact fin _ _ _ (by first|rfl|simp) (by first|rfl|simp)
 ·have s1:=u5 1 (m / n) (by simp) (by omega)
  have s2:=u5 1 (m % n) (by simp) (by omega)
  (refine ac Tryz.func217 ?_;(conv=>whnf);repeat (refine zy ?_;conv=>whnf))
  repeat' (first|refine zz ?_|refine qp r1 ?_|refine qp r2 ?_|refine qp dv ?_|refine qp s1 ?_|refine qp s2 ?_|refine ⟨_,y9 (y:=1) rfl (by decide) (by decide),?_⟩|refine zd ?_ ?_<;>intro h<;>try omega|refine zy ?_|fail)<;>conv=>whnf
  all_goals first|omega|exact fin _ _ _ (by first|rfl|simp) (by first|rfl|simp)
 ·by_cases h0:m % n=0
  ·have hz0:=hz.2 h0
   have s1:=u5 (-1) (m / n) (by simp) (by omega)
   have s2:=u5 (-1) (m % n) (by simp) (by omega)
   have e1:-1*((m / n:Nat):Int)=-1*(m:Int) / n:=by
    have e:(m:Int)=n*(m / n:Nat):=by rw [← Int.natCast_mul];congr 1;omega
    rw [e,show -1*((n:Int)*(m / n:Nat))=n*(-1*(m / n:Nat)) by grind,Int.mul_ediv_cancel_left _ (by omega)]
   have e2:-1*((m % n:Nat):Int)=-1*(m:Int) % n:=by
    have e:(m:Int)=n*(m / n:Nat):=by rw [← Int.natCast_mul];congr 1;omega
    rw [h0,e,show -1*((n:Int)*(m / n:Nat))=n*(-1*(m / n:Nat)) by grind,Int.mul_emod_right]
    simp
   (refine ac Tryz.func217 ?_;(conv=>whnf);repeat (refine zy ?_;conv=>whnf))
   repeat' (first|refine zz ?_|refine qp r1 ?_|refine qp r2 ?_|refine qp dv ?_|refine qp s1 ?_|refine qp s2 ?_|refine ⟨_,y9 (y:=-1) rfl (by decide) (by decide),?_⟩|refine zd ?_ ?_<;>intro h<;>try omega|refine zy ?_|fail)<;>conv=>whnf
   all_goals first|omega|exact fin _ _ _ e1 e2
  ·have hz0:(dg (m % n)).length≠0:=fun h=>h0 (hz.1 h)
   have one:dg 1=[1]:=rfl
   have ad:=b3M (m / n) 1 (by omega) (by simp [one])
   have sb:=a9z n (m % n) (by omega) (by omega)
   have l1:=a2Q (m / n) 1
   have l2:=m8 (Nat.sub_le n (m % n))
   have s1:=u5 (-1) (m / n+1) (by simp) (by rw [one] at l1;simp at l1;omega)
   have s2:=u5 1 (n - m % n) (by simp) (by omega)
   have key:(-1*(m:Int))=(n - m % n:Nat)+n*(-1*((m / n+1:Nat):Int)):=by
    have e:(m:Int)=n*(m / n:Nat)+(m % n:Nat):=by rw [← Int.natCast_mul];omega
    have e2:((n - m % n:Nat):Int)=n - (m % n:Nat):=by omega
    have e3:((m / n+1:Nat):Int)=(m / n:Nat)+1:=by omega
    rw [e2,e3]
    grind
   have e1:-1*((m / n+1:Nat):Int)=-1*(m:Int) / n:=by
    rw [key,Int.add_mul_ediv_left _ _ (by omega),Int.ediv_eq_zero_of_lt (by omega) (by omega)]
    simp
   have e2:1*((n - m % n:Nat):Int)=-1*(m:Int) % n:=by
    rw [key,Int.add_mul_emod_self_left,Int.emod_eq_of_lt (by omega) (by omega)]
    simp
   (refine ac Tryz.func217 ?_;(conv=>whnf);repeat (refine zy ?_;conv=>whnf))
   repeat' (first|refine zz ?_|refine qp r1 ?_|refine qp r2 ?_|refine qp dv ?_|refine qp s1 ?_|refine qp s2 ?_|refine qp sb ?_|refine .inl ⟨_,_,Z5 ad ⟨ae1,a0q (aG1 rfl),trivial⟩ rfl,?_⟩|refine ⟨_,y9 (y:=-1) rfl (by decide) (by decide),?_⟩|refine zd ?_ ?_<;>intro h<;>try omega|refine zy ?_|fail)<;>conv=>whnf
   all_goals first|omega|exact fin _ _ _ e1 e2
theorem as9 (x y:Int) (hy:0<y) (lx:bl x<=200000) (ly:bl y<=200000):a9 Tryz.prog 217 [bgS (bz x),bgS (bz y)] [] (.tup [bgS (bz (x / y)),bgS (bz (x % y)),a7 .i64 0]) []:=by
 have h:=b7a _ _ y.natAbs (a4W x) (by omega) lx ly
 rw [sgm,show (y.natAbs:Int)=y by omega] at h
 unfold bz at *
 rw [Int.sign_eq_one_of_pos hy]
 exact h
abbrev b1s:Blk:={ mode:=.live,elem:=81,size:=2,rows:=[[A9 (.int .i64 0),A9 (.slice none 0 0)]],box:=true }
theorem R9:G4 [[A9 (.int .i64 0),A9 (.slice none 0 0)]]:=by
 intro r hr c hc
 simp at hr
 subst hr
 simp at hc
 rcases hc with rfl|rfl<;>rfl
structure b4B (x y:Int) (X Y:Nat):Prop where
 g:Nat.gcd X Y=Nat.gcd x.natAbs y.natAbs
 lx:(dg X).length<=200000
 ly:(dg Y).length<=200000
theorem aP0 (x y:Int) (lx:bl x<=200000) (ly:bl y<=200000):a9 Tryz.prog 136 [bgS (bz x),bgS (bz y)] [] (.tup [bgS (bz (Int.gcd x y)),a7 .i64 0]) []:=by
 have r1:=a3S x (by omega)
 have r2:=a3S y (by omega)
 have cl:=a8q (bz x).dl (show bl x<=1000000 by omega)
 (refine ac Tryz.func136 ?_;(conv=>whnf);repeat (refine zy ?_;conv=>whnf))
 repeat' (first|refine zz ?_|refine qp r1 ?_|refine qp r2 ?_|refine qp cl ?_|refine zd ?_ ?_<;>intro h<;>try omega|refine zy ?_|fail)<;>conv=>whnf
 all_goals first
  |(exfalso;simp_all;done)
  |skip
 refine k8 c8 (σ:=Nat × Nat) (fun|(X,Y)=>([J,J,J,J,S.c (C.ptr 0 0 0),J,d8 (dg X),d8 (dg Y),J,J,J,J,J,J,J,J,J,J,J,J,J,J,J,J,J,J,J,J,J,J,J,J,J,J,J,J,J,J,J,J,J,J,J,J],[b1s])) (fun s=>b4B x y s.1 s.2) (fun s=>s.2) (x.natAbs,y.natAbs) [some 2]
  ⟨rfl,lx,ly⟩ ⟨rfl,rfl,⟨⟨rfl,rfl,rfl,.inl ⟨rfl,R9⟩⟩,trivial⟩,⟨⟨rfl,rfl,rfl⟩,rfl,rfl,trivial⟩⟩ ?_
 rintro ⟨X,Y⟩ hI
 have hI:b4B x y X Y:=hI
 obtain ⟨g1,g2,g3⟩:=hI
 have l2:((dg Y).map d9).length=(dg Y).length:=by simp
 conv=>whnf
 by_cases hY:0<Y
 ·have hp:(dg Y).length≠0:=by rw [Ne,List.length_eq_zero_iff,N2];omega
  have dv:=b6r X Y hY (by omega) (by omega)
  repeat' (first|refine zz ?_|refine qp dv ?_|refine zd ?_ ?_<;>intro h<;>try omega|refine zy ?_|fail)<;>conv=>whnf
  all_goals first
   |omega
   |skip
  exact ⟨[some 0],(Y,X % Y),⟨rfl,rfl,⟨⟨rfl,rfl,rfl,.inl ⟨rfl,R9⟩⟩,trivial⟩,⟨⟨rfl,rfl,rfl⟩,rfl,rfl,trivial⟩⟩,⟨by rw [← g1,Nat.gcd_comm Y,←Nat.gcd_rec,Nat.gcd_comm],g3,Nat.le_trans (m8 (Nat.le_of_lt (Nat.mod_lt X hY))) g3⟩,Nat.mod_lt X hY⟩
 ·have hY:Y=0:=by omega
  subst hY
  have hp:(dg 0).length=0:=rfl
  have c2:=a8q (dg X) (by omega)
  have s1:=u5 1 X (by simp) (by omega)
  have ck:=F5 true (bz (1*X))
  repeat' (first|refine zz ?_|refine qp c2 ?_|refine qp s1 ?_|refine qp ck ?_|refine zd ?_ ?_<;>intro h<;>try omega|refine zy ?_|fail)<;>conv=>whnf
  all_goals first
   |omega
   |skip
  refine a5i ?_
  rw [Int.one_mul,show X=Int.gcd x y by rw [Int.gcd,←g1,Nat.gcd_zero_right]]
  rfl
theorem a0H {x y:Int} (h:x % 18446744073709551616=y):F2 .u64 x y:=by
 unfold F2
 simp only [IntKind.wrap,IntKind.bits,IntKind.signed]
 simp
 omega
theorem b09 (a:Int):T1 .and .u64 a 1048575 (a % 1048576):=(aq5 (a:=a) 20 (by decide)).symm
theorem b3X (a:Int):aX6 .u64 a 20 (a / 1048576):=by
 show a / 1048576=a.fdiv 1048576
 exact (Int.fdiv_eq_ediv_of_nonneg _ (by decide)).symm
structure OfI (n:Int) (acc:List Int) (u:Nat):Prop where
 eq:acc++dg u=dg n.natAbs
theorem OfI.len {n:Int} {acc:List Int} {u:Nat} (h:OfI n acc u) (h0:-9223372036854775808<=n) (h1:n<=9223372036854775807):acc.length<=4:=by
 have h2:(dg n.natAbs).length<=4:=L1 (by simp only [pw];omega)
 have h3:=congrArg List.length h.eq
 simp at h3
 omega
theorem OfI.step {n:Int} {acc:List Int} {u:Nat} (h:OfI n acc u) (hu:0<u):OfI n (acc++[(u:Int) % 1048576]) (u / 1048576):=by
 refine ⟨?_⟩
 rw [← h.eq,a5p hu]
 simp
theorem OfI.le {n:Int} {acc:List Int} {u:Nat} (h:OfI n acc u):u<=n.natAbs:=by
 have h1:=congrArg val h.eq
 rw [I6,k6,k6] at h1
 have h2:Okd acc:=fun x hx=>o8 n.natAbs x (by rw [← h.eq];simp [hx])
 have h3:=t4 h2
 have h4:=N5 acc.length
 have h5:=Int.mul_le_mul_of_nonneg_right (a:=1) (b:=pw acc.length) (c:=(u:Int)) (by omega) (by omega)
 omega
theorem a13 {xs:List Int} {x:Int}:(toC (xs.map d9)).take xs.length++toC [[ti x]]=toC ((xs++[x]).map d9):=b6a (f:=d9)
theorem aZ8 (n:Int) (h0:-9223372036854775808<=n) (h1:n<=9223372036854775807):a9 Tryz.prog 138 [a7 .i64 n] [] (bgS (bz n)) []:=by
 by_cases hn:n<0
 ·(refine ac Tryz.func138 ?_;(conv=>whnf);repeat (refine zy ?_;conv=>whnf))
  repeat' (first|refine zz ?_|refine ⟨_,a0H (y:=n+18446744073709551616) (by omega),?_⟩|refine ⟨_,a0H (y:=(n.natAbs:Int)) (by omega),?_⟩|refine zd ?_ ?_<;>intro h<;>try omega|refine zy ?_|fail)<;>conv=>whnf
  refine k8 c8 (σ:=List Int × Nat) (fun|(acc,u)=>([J,J,S.c (C.ptr 0 0 0),a7 .i64 (-1),a7 .u64 u,a0m 1 acc,J,J,J,J,J,J,J,J,J,J,J,J,J,J,J,J,J,J,J],[b1s,o4 acc])) (fun s=>OfI n s.1 s.2) (fun s=>s.2) ([],n.natAbs) [some 0,none]
   ⟨rfl⟩ ⟨rfl,rfl,⟨⟨rfl,rfl,rfl,.inl ⟨rfl,R9⟩⟩,⟨rfl,rfl⟩,trivial⟩,⟨⟨rfl,rfl,rfl⟩,rfl,c6 (by omega),⟨rfl,rfl,rfl⟩,trivial⟩⟩ ?_
  rintro ⟨acc,u⟩ hI
  have hI:OfI n acc u:=hI
  have hl:=hI.len h0 h1
  have hu:=hI.le
  conv=>whnf
  repeat' (first|refine zz ?_|refine qp toC ?_|refine qp toC ?_|refine ⟨_,b09 _,?_⟩|refine ⟨by decide,_,b3X _,?_⟩|refine o7 (by simp [toC]) (by simp [toC];omega) ?_|refine ⟨_,a0H (by omega),?_⟩|refine zd ?_ ?_<;>intro h<;>try omega|refine zy ?_|fail)<;>conv=>whnf
  ·refine ⟨[some 0,some 2],(acc++[(u:Int) % 1048576],u / 1048576),⟨rfl,rfl,⟨⟨rfl,rfl,rfl,.inl ⟨rfl,R9⟩⟩,a8 rfl rfl rfl a13 rfl,trivial⟩,⟨⟨rfl,rfl,rfl⟩,rfl,c6 (by simp),j9 rfl (by simp [toC]),trivial⟩⟩,hI.step (by omega),by show u / 1048576<u;omega⟩
  ·have h0u:u=0:=by omega
   subst h0u
   have e:acc=dg n.natAbs:=by have:=hI.eq;rw [S3,List.append_nil] at this;exact this
   have sg:=u5 (-1) n.natAbs (by omega) (by rw [← e];omega)
   rw [← e,show (-1)*(n.natAbs:Int)=n by omega] at sg
   refine .inr ⟨_,_,u0 [1] sg ⟨ae1,a0q (t5 (by simp) rfl (by intro h;cases h) rfl rfl (by simp)),trivial⟩ rfl,?_⟩
   conv=>whnf
   exact k5 ⟨rfl,rfl,trivial⟩
 ·(refine ac Tryz.func138 ?_;(conv=>whnf);repeat (refine zy ?_;conv=>whnf))
  repeat' (first|refine zz ?_|refine ⟨_,a0H (y:=(n.natAbs:Int)) (by omega),?_⟩|refine zd ?_ ?_<;>intro h<;>try omega|refine zy ?_|fail)<;>conv=>whnf
  refine k8 c8 (σ:=List Int × Nat) (fun|(acc,u)=>([J,J,S.c (C.ptr 0 0 0),a7 .i64 1,a7 .u64 u,a0m 1 acc,J,J,J,J,J,J,J,J,J,J,J,J,J,J,J,J,J,J,J],[b1s,o4 acc])) (fun s=>OfI n s.1 s.2) (fun s=>s.2) ([],n.natAbs) [some 0,none]
   ⟨rfl⟩ ⟨rfl,rfl,⟨⟨rfl,rfl,rfl,.inl ⟨rfl,R9⟩⟩,⟨rfl,rfl⟩,trivial⟩,⟨⟨rfl,rfl,rfl⟩,rfl,c6 (by omega),⟨rfl,rfl,rfl⟩,trivial⟩⟩ ?_
  rintro ⟨acc,u⟩ hI
  have hI:OfI n acc u:=hI
  have hl:=hI.len h0 h1
  have hu:=hI.le
  conv=>whnf
  repeat' (first|refine zz ?_|refine qp toC ?_|refine qp toC ?_|refine ⟨_,b09 _,?_⟩|refine ⟨by decide,_,b3X _,?_⟩|refine o7 (by simp [toC]) (by simp [toC];omega) ?_|refine ⟨_,a0H (by omega),?_⟩|refine zd ?_ ?_<;>intro h<;>try omega|refine zy ?_|fail)<;>conv=>whnf
  ·refine ⟨[some 0,some 2],(acc++[(u:Int) % 1048576],u / 1048576),⟨rfl,rfl,⟨⟨rfl,rfl,rfl,.inl ⟨rfl,R9⟩⟩,a8 rfl rfl rfl a13 rfl,trivial⟩,⟨⟨rfl,rfl,rfl⟩,rfl,c6 (by simp),j9 rfl (by simp [toC]),trivial⟩⟩,hI.step (by omega),by show u / 1048576<u;omega⟩
  ·have h0u:u=0:=by omega
   subst h0u
   have e:acc=dg n.natAbs:=by have:=hI.eq;rw [S3,List.append_nil] at this;exact this
   have sg:=u5 (1) n.natAbs (by omega) (by rw [← e];omega)
   rw [← e,show (1)*(n.natAbs:Int)=n by omega] at sg
   refine .inr ⟨_,_,u0 [1] sg ⟨ae1,a0q (t5 (by simp) rfl (by intro h;cases h) rfl rfl (by simp)),trivial⟩ rfl,?_⟩
   conv=>whnf
   exact k5 ⟨rfl,rfl,trivial⟩
theorem an7 (i:Nat):pw i=((2 ^ (20*i):Nat):Int):=by
 unfold pw;rw [show (1048576:Int)=((2 ^ 20:Nat):Int) by decide,←Int.natCast_pow,←Nat.pow_mul]
theorem b9j {d:Int} {i:Nat} {b:Int} (hi:i<=3) (h:0<=d) (h2:d*pw i<18446744073709551616) (hb:b=20*i):F2 .u64 (d*2 ^ min b.toNat (IntKind.bits .u64)) (d*pw i):=by
 have e:min b.toNat (IntKind.bits .u64)=20*i:=by show min b.toNat 64=_;omega
 have hp:=N5 i
 have h3:0<=d*pw i:=Int.mul_nonneg h (by omega)
 rw [e,show (2:Int) ^ (20*i)=pw i by rw [an7];simp]
 exact aD1 h3 h2
theorem oru {u d:Int} {i:Nat} (hu:0<=u) (hu2:u<pw i) (h:0<=d) (h2:u+d*pw i<18446744073709551616):T1 .or .u64 u (d*pw i) (u+d*pw i):=by
 obtain ⟨U,rfl⟩:=Int.eq_ofNat_of_zero_le hu
 obtain ⟨D,rfl⟩:=Int.eq_ofNat_of_zero_le h
 have hp:=N5 i
 have e2:(U:Int)+D*pw i=((U+2 ^ (20*i)*D:Nat):Int):=by rw [an7];simp [Int.mul_comm]
 have e3:(D:Int)*pw i=((2 ^ (20*i)*D:Nat):Int):=by rw [an7];simp [Int.mul_comm]
 rw [e2] at h2
 have hU:U<2 ^ (20*i):=by rw [an7] at hu2;omega
 have k1:(BitVec.ofInt (IntKind.bits .u64) (U:Int) ||| BitVec.ofInt (IntKind.bits .u64) ((2 ^ (20*i)*D:Nat):Int)).toNat=U+2 ^ (20*i)*D:=by
  show (BitVec.ofInt 64 _ ||| BitVec.ofInt 64 _).toNat=_
  rw [BitVec.toNat_or,BitVec.toNat_ofInt,BitVec.toNat_ofInt]
  rw [Int.emod_eq_of_lt (by omega) (by omega),Int.emod_eq_of_lt (by omega) (by omega),Int.toNat_natCast,Int.toNat_natCast,Nat.or_comm,←Nat.two_pow_add_eq_or_of_lt hU,Nat.add_comm]
 rw [e2,e3]
 unfold T1
 simp only
 rw [k1]
 exact (a9n (by omega) h2).symm
structure aR8 (n:Nat) (k:Nat) (u:Int):Prop where
 eq:u=val ((dg n).take k)
 le:k<=(dg n).length
 lt:k=4->u<9*1152921504606846976
theorem aR8.rng {n k:Nat} {u:Int} (h:aR8 n k u):0<=u∧u<pw k:=by
 have h1:=t4 ((o8 n).take k)
 have h2:=S9 ((o8 n).take k)
 rw [List.length_take,Nat.min_eq_left h.le,←h.eq] at h2
 rw [← h.eq] at h1
 exact ⟨h1,h2⟩
theorem aR8.step {n k:Nat} {u:Int} (h:aR8 n k u) (hk:k<(dg n).length) (hd:k=3->dat (dg n) k<=8):aR8 n (k+1) (u+dat (dg n) k*pw k):=by
 have hr:=h.rng
 refine ⟨by rw [o6,h.eq,Int.mul_comm],hk,fun h4=>?_⟩
 have:k=3:=by omega
 subst this
 have:=hd rfl
 simp only [pw] at hr ⊢
 omega
theorem b70 {k:Nat} (h:k<=3):pw k<=1152921504606846976:=by
 have:=a0C h
 simp only [pw] at this ⊢
 omega
theorem b7O {k:Nat} (h:k<=2):pw k<=1099511627776:=by
 have:=a0C h
 simp only [pw] at this ⊢
 omega
theorem ar5 {a a':Int} {b b':Bool} {k:IntKind} {H1:Hp} (h:a=a') (h2:b=b'):Fin 0 (.tup [a7 k a,f5 b]) H1 (.tup [a7 k a',f5 b']) []:=by
 subst h h2;exact k5 ⟨rfl,rfl,trivial⟩
theorem aI9 {x:Int} (h1:9223372036854775808<=x) (h2:x<18446744073709551616):F2 .i64 x (x - 18446744073709551616):=by
 unfold F2
 simp only [IntKind.wrap,IntKind.bits,IntKind.signed]
 simp
 omega
abbrev a7d (x:Int):Prop:=-9223372036854775808<=x∧x<=9223372036854775807
theorem b83 (x:Int) (lx:bl x<=200000):a9 Tryz.prog 210 [bgS (bz x)] [] (.tup [a7 .i64 (if a7d x then x else 0),f5 (decide (a7d x))]) []:=by
 have r1:=a3S x (by omega)
 have l1:((bz x).dl.map d9).length=(dg x.natAbs).length:=by simp [bz]
 have l2:(bz x).dl=dg x.natAbs:=rfl
 have hlast:∀k:Nat,k<(dg x.natAbs).length->pw k<=x.natAbs:=fun k hk=>Int.le_trans (a0C (by omega)) (as8 (by
  rcases Nat.eq_zero_or_pos x.natAbs with h|h
  ·rw [h,S3] at hk;simp at hk
  ·exact h))
 (refine ac Tryz.func210 ?_;(conv=>whnf);repeat (refine zy ?_;conv=>whnf))
 repeat' (first|refine zz ?_|refine qp r1 ?_|refine zd ?_ ?_<;>intro h<;>try omega|refine zy ?_|fail)<;>conv=>whnf
 ·have hl:4<(dg x.natAbs).length:=by omega
  have:=hlast 4 hl
  simp only [pw] at this
  have hn:¬a7d x:=by unfold a7d;omega
  exact ar5 (by rw [if_neg hn]) (by simp [hn])
 ·refine k8 c8 (σ:=Nat × Int) (fun|(k,u)=>([J,S.c (C.ptr 0 0 0),J,J,a7 .u64 u,J,J,J,J,J,J,J,J,J,J,J,J,d8 (dg x.natAbs),a7 .i64 (dg x.natAbs).length,a7 .i64 k,J,J,J,J,J,J,J,J,J,J,J,J,J,J,J,J,J,J,J,J,J,J,J,J,J,J,J,J,J,J,J,J,J,J,J,J,J,J,J],[bgB (bz x)])) (fun s=>aR8 x.natAbs s.1 s.2) (fun s=>(dg x.natAbs).length - s.1) (0,0) [some 0]
   ⟨by simp [val],by omega,by omega⟩ ⟨rfl,rfl,⟨⟨rfl,rfl,rfl,.inl ⟨rfl,a47 _⟩⟩,trivial⟩,⟨⟨rfl,rfl,rfl⟩,rfl,g9 rfl,c6 (by omega),rfl,trivial⟩⟩ ?_
  rintro ⟨k,u⟩ hI
  have hI:aR8 x.natAbs k u:=hI
  have hr:=hI.rng
  have hle:=hI.le
  have hd:=(o8 x.natAbs).dat k
  have hp:=N5 k
  have hp3:k<=3->pw k<=1152921504606846976:=b70
  have hdm:0<=dat (dg x.natAbs) k*pw k:=Int.mul_nonneg hd.1 (by omega)
  have l3:((dg x.natAbs).map d9).length=(dg x.natAbs).length:=by simp
  have hp2:k<=2->pw k<=1099511627776:=b7O
  have hA:k<=3->(k=3->dat (dg x.natAbs) k<=8)->u+dat (dg x.natAbs) k*pw k<18446744073709551616:=fun h3 h8=>by
   by_cases hk:k=3
   ·have:=Int.mul_le_mul_of_nonneg_right (c:=pw k) (h8 hk) (by omega)
    have:=hp3 h3
    omega
   ·have:=Int.mul_le_mul_of_nonneg_right (c:=pw k) (show dat (dg x.natAbs) k<=1048575 by omega) (by omega)
    have:=hp2 (by omega)
    omega
  have hE:k=(dg x.natAbs).length->u=x.natAbs:=fun h=>by
   have:=hI.eq
   rw [h,lg4 (Nat.le_refl _),k6] at this
   exact this
  have hs:=B2 x
  have hsg:(bz x).sg=x.sign:=rfl
  conv=>whnf
  repeat' (first|refine zz ?_|refine b8 (s7 (by omega)) ?_|refine ⟨_,aD1 (by omega) (by omega),?_⟩|refine ⟨by omega,_,b9j (i:=k) (by omega) (by omega) (by omega) (by omega),?_⟩|refine ⟨_,oru (by omega) (by omega) (by omega) (by omega),?_⟩|refine ⟨_,a0H (y:=18446744073709551616 - u) (by omega),?_⟩|refine ⟨_,aI9 (by omega) (by omega),?_⟩|refine zd ?_ ?_<;>intro h<;>try omega|refine zy ?_|fail)<;>conv=>whnf
  ·have hk:k=3:=by omega
   have h8:9<=dat (dg x.natAbs) k:=by omega
   have h1:=o6 (dg x.natAbs) k
   have h4:val (dg x.natAbs)=val ((dg x.natAbs).take (k+1)):=by rw [lg4 (by omega)]
   rw [k6] at h4
   have h5:=t4 ((o8 x.natAbs).take k)
   have h6:=Int.mul_le_mul_of_nonneg_left (a:=9) (b:=dat (dg x.natAbs) k) (c:=pw k) h8 (by omega)
   have h7:pw k=1152921504606846976:=by rw [hk];rfl
   have hn:¬a7d x:=by unfold a7d;omega
   exact ar5 (by rw [if_neg hn]) (by simp [hn])
  ·have hst:=hI.step (by omega) (by omega)
   exact ⟨[some 0],(k+1,u+dat (dg x.natAbs) k*pw k),⟨rfl,rfl,⟨⟨rfl,rfl,rfl,.inl ⟨rfl,a47 _⟩⟩,trivial⟩,⟨⟨rfl,rfl,rfl⟩,rfl,rfl,rfl,c6 (by omega),trivial⟩⟩,hst,by show (dg x.natAbs).length - (k+1)<(dg x.natAbs).length - k;omega⟩
  ·have hst:=hI.step (by omega) (by omega)
   exact ⟨[some 0],(k+1,u+dat (dg x.natAbs) k*pw k),⟨rfl,rfl,⟨⟨rfl,rfl,rfl,.inl ⟨rfl,a47 _⟩⟩,trivial⟩,⟨⟨rfl,rfl,rfl⟩,rfl,rfl,rfl,c6 (by omega),trivial⟩⟩,hst,by show (dg x.natAbs).length - (k+1)<(dg x.natAbs).length - k;omega⟩
  all_goals
   have hu:=hE (by omega)
   first
    |(have hn:a7d x:=by unfold a7d;omega
      exact ar5 (by rw [if_pos hn];omega) (by simp [hn]))
    |(have hn:¬a7d x:=by unfold a7d;omega
      exact ar5 (by rw [if_neg hn]) (by simp [hn]))
abbrev frC (f:Fr):List C:=[.t (ti f.p.sg),.t (F8 f.p.dl),.t (ti f.q.sg),.t (F8 f.q.dl)]
abbrev frS (f:Fr):S:=.agg (frC f)
theorem b8F (x:Int) (lx:bl x<=200000):a9 Tryz.prog 137 [bgS (bz x)] [] (f5 (x == 1)) []:=by
 have i:=b83 x lx
 by_cases h:a7d x
 ·rw [if_pos h,show decide (a7d x)=true by simp [h]] at i
  (refine ac Tryz.func137 ?_;(conv=>whnf);repeat (refine zy ?_;conv=>whnf))
  repeat' (first|refine zz ?_|refine qp i ?_|refine zd ?_ ?_<;>intro h<;>try omega|refine zy ?_|fail)<;>conv=>whnf
  all_goals (refine b9 ?_;simp;omega)
 ·rw [if_neg h,show decide (a7d x)=false by simp [h]] at i
  have hx:x≠1:=by rintro rfl;exact h (by decide)
  (refine ac Tryz.func137 ?_;(conv=>whnf);repeat (refine zy ?_;conv=>whnf))
  repeat' (first|refine zz ?_|refine qp i ?_|refine zd ?_ ?_<;>intro h<;>try omega|refine zy ?_|fail)<;>conv=>whnf
  all_goals (refine b9 ?_;simp;omega)
theorem a8P (f:Fr) (lp:f.p.dl.length<=200000) (lq:f.q.dl.length<=200000):a9 Tryz.prog 65 [frS f] [] (f5 (B5 f)) []:=by
 obtain ⟨p,q⟩:=f
 simp only at lp lq
 have r1:=a1Z p (by omega)
 have r2:=a1Z q (by omega)
 cases hp:G0 p with
 |false=>
  rw [hp] at r1
  (refine ac Tryz.func65 ?_;(conv=>whnf);repeat (refine zy ?_;conv=>whnf))
  repeat' (first|refine zz ?_|refine qp r1 ?_|refine qp r2 ?_|refine zd ?_ ?_<;>intro h<;>try omega|refine zy ?_|fail)<;>conv=>whnf
  all_goals (first|(exfalso;simp_all;done)|(refine b9 ?_;unfold B5;simp [hp]))
 |true=>
  rw [hp] at r1
  cases hq:G0 q with
  |false=>
   rw [hq] at r2
   (refine ac Tryz.func65 ?_;(conv=>whnf);repeat (refine zy ?_;conv=>whnf))
   repeat' (first|refine zz ?_|refine qp r1 ?_|refine qp r2 ?_|refine zd ?_ ?_<;>intro h<;>try omega|refine zy ?_|fail)<;>conv=>whnf
   all_goals (first|(exfalso;simp_all;done)|(refine b9 ?_;unfold B5;simp [hq]))
  |true=>
   rw [hq] at r2
   obtain ⟨x,rfl⟩:=ab0 hp
   obtain ⟨y,rfl⟩:=ab0 hq
   have g:=aP0 x y lp lq
   have o:=b8F (Int.gcd x y) (a9h x y lp lq)
   (refine ac Tryz.func65 ?_;(conv=>whnf);repeat (refine zy ?_;conv=>whnf))
   repeat' (first|refine zz ?_|refine qp r1 ?_|refine qp r2 ?_|refine qp g ?_|refine qp o ?_|refine zd ?_ ?_<;>intro h<;>try omega|refine zy ?_|fail)<;>conv=>whnf
   all_goals (refine b9 ?_;unfold B5;simp only [V7,a3f,Bool.true_and];symm;simp_all<;>omega)
theorem a0B (x y:Int) (lx:bl x<=200000) (ly:bl y<=200000):a9 Tryz.prog 140 [bgS (bz x),bgS (bz y)] [] (bgS (bz (x*y))) []:=by
 have mu:=b7w x y lx ly
 (refine ac Tryz.func140 ?_;(conv=>whnf);repeat (refine zy ?_;conv=>whnf))
 repeat' (first|refine zz ?_|refine qp mu ?_|refine zd ?_ ?_<;>intro h<;>try omega|refine zy ?_|fail)<;>conv=>whnf
 exact k5 ⟨rfl,rfl,trivial⟩
theorem T5 {f f':Fr} {e:Int} {H1:Hp} (h:f=f'):Fin 0 (.tup [frS f,a7 .i64 e]) H1 (.tup [frS f',a7 .i64 e]) []:=by
 subst h;exact k5 ⟨⟨rfl,rfl,rfl,rfl,trivial⟩,rfl,trivial⟩
theorem aq4 (p q:Int) (hq:q≠0) (lp:bl p<=200000) (lq:bl q<=200000):a9 Tryz.prog 143 [bgS (bz p),bgS (bz q)] [] (.tup [frS (fz (Rat.divInt p q)),a7 .i64 0]) []:=by
 have r1:=a3S p (by omega)
 have r2:=a3S q (by omega)
 have hs:=B2 q
 have hsg:(bz q).sg=q.sign:=rfl
 by_cases h:q<0
 ·have n1:=a7c p (by omega)
  have n2:=a7c q (by omega)
  have lg:=a9h (-p) (-q) (by rw [a12];exact lp) (by rw [a12];exact lq)
  have hg:0<(Int.gcd (-p) (-q):Int):=by have:=Int.gcd_pos_of_ne_zero_right (-p) (b:=-q) (by omega);omega
  have g:=aP0 (-p) (-q) (by rw [a12];exact lp) (by rw [a12];exact lq)
  have d1:=as9 (-p) _ hg (by rw [a12];exact lp) lg
  have d2:=as9 (-q) _ hg (by rw [a12];exact lq) lg
  have e:=a7z (p:=-p) (q:=-q) (by omega) rfl
  rw [Rat.neg_divInt_neg] at e
  (refine ac Tryz.func143 ?_;(conv=>whnf);repeat (refine zy ?_;conv=>whnf))
  repeat' (first|refine zz ?_|refine qp r1 ?_|refine qp r2 ?_|refine qp n1 ?_|refine qp n2 ?_|refine qp g ?_|refine qp d1 ?_|refine qp d2 ?_|refine zd ?_ ?_<;>intro h<;>try omega|refine zy ?_|fail)<;>conv=>whnf
  all_goals first
   |(exfalso;simp_all;done)
   |omega
   |exact T5 e.symm
 ·have lg:=a9h p q lp lq
  have hg:0<(Int.gcd p q:Int):=by have:=Int.gcd_pos_of_ne_zero_right p (b:=q) (by omega);omega
  have g:=aP0 p q lp lq
  have d1:=as9 p _ hg lp lg
  have d2:=as9 q _ hg lq lg
  have e:=a7z (p:=p) (q:=q) (by omega) rfl
  (refine ac Tryz.func143 ?_;(conv=>whnf);repeat (refine zy ?_;conv=>whnf))
  repeat' (first|refine zz ?_|refine qp r1 ?_|refine qp r2 ?_|refine qp g ?_|refine qp d1 ?_|refine qp d2 ?_|refine zd ?_ ?_<;>intro h<;>try omega|refine zy ?_|fail)<;>conv=>whnf
  all_goals first
   |omega
   |(exfalso;simp_all;done)
   |exact T5 e.symm
theorem G2 (x:Rat) (lx:rl x<=200000):a9 Tryz.prog 65 [frS (fz x)] [] (f5 true) []:=by
 have h:=a8P (fz x) (Nat.le_trans (E7 x) lx) (Nat.le_trans (F7 x) lx)
 rw [a6t] at h
 exact h
theorem a1P (x y:Rat) (lx:rl x<=60000) (ly:rl y<=60000):a9 Tryz.prog 73 [frS (fz x),frS (fz y)] [] (.tup [frS (fz (x+y)),a7 .i64 0]) []:=by
 have r1:=G2 x (by omega)
 have r2:=G2 y (by omega)
 have x1:=E7 x
 have x2:=F7 x
 have y1:=E7 y
 have y2:=F7 y
 have l1:=C7 x.num y.den
 have l2:=C7 y.num x.den
 have l3:=C7 x.den y.den
 have l4:=a6K (x.num*y.den) (y.num*x.den)
 have t1:=a0B x.num y.den (by omega) (by omega)
 have t2:=a0B y.num x.den (by omega) (by omega)
 have t3:=a0B x.den y.den (by omega) (by omega)
 have a:=b8f (x.num*y.den) (y.num*x.den) (by omega) (by omega)
 have n:=aq4 (x.num*y.den+y.num*x.den) (x.den*y.den) (a8B x y) (by omega) (by omega)
 rw [← a8s] at n
 (refine ac Tryz.func73 ?_;(conv=>whnf);repeat (refine zy ?_;conv=>whnf))
 repeat' (first|refine zz ?_|refine qp r1 ?_|refine qp r2 ?_|refine qp t1 ?_|refine qp t2 ?_|refine qp t3 ?_|refine qp a ?_|refine qp n ?_|refine qp 13 ?_|refine bl0 [13] ?_|refine zd ?_ ?_<;>intro h<;>try omega|refine zy ?_|fail)<;>conv=>whnf
 all_goals first
  |(exfalso;simp_all;done)
  |exact T5 rfl
theorem aO4 (x y:Rat) (lx:rl x<=60000) (ly:rl y<=60000):a9 Tryz.prog 72 [frS (fz x),frS (fz y)] [] (.tup [frS (fz (x - y)),a7 .i64 0]) []:=by
 have r1:=G2 x (by omega)
 have r2:=G2 y (by omega)
 have y1:=E7 y
 have n:=a7c y.num (by omega)
 have a:=a1P x (-y) lx (by rw [O9];exact ly)
 rw [← Rat.sub_eq_add_neg] at a
 have e:fz (-y)=⟨bz (-y.num),bz y.den⟩:=rfl
 rw [e] at a
 (refine ac Tryz.func72 ?_;(conv=>whnf);repeat (refine zy ?_;conv=>whnf))
 repeat' (first|refine zz ?_|refine qp r1 ?_|refine qp r2 ?_|refine qp n ?_|refine qp a ?_|refine zd ?_ ?_<;>intro h<;>try omega|refine zy ?_|fail)<;>conv=>whnf
 all_goals first
  |(exfalso;simp_all;done)
  |exact T5 rfl
theorem aa3 (x y:Rat) (lx:rl x<=60000) (ly:rl y<=60000):a9 Tryz.prog 179 [frS (fz x),frS (fz y)] [] (.tup [frS (fz (x*y)),a7 .i64 0]) []:=by
 have r1:=G2 x (by omega)
 have r2:=G2 y (by omega)
 have x1:=E7 x
 have x2:=F7 x
 have y1:=E7 y
 have y2:=F7 y
 have l1:=C7 x.num y.num
 have l3:=C7 x.den y.den
 have t1:=a0B x.num y.num (by omega) (by omega)
 have t3:=a0B x.den y.den (by omega) (by omega)
 have n:=aq4 (x.num*y.num) (x.den*y.den) (a8B x y) (by omega) (by omega)
 rw [← av0] at n
 (refine ac Tryz.func179 ?_;(conv=>whnf);repeat (refine zy ?_;conv=>whnf))
 repeat' (first|refine zz ?_|refine qp r1 ?_|refine qp r2 ?_|refine qp t1 ?_|refine qp t3 ?_|refine qp n ?_|refine zd ?_ ?_<;>intro h<;>try omega|refine zy ?_|fail)<;>conv=>whnf
 all_goals first
  |(exfalso;simp_all;done)
  |exact T5 rfl
theorem aE6 (x y:Rat):J8 (x.num*y.den) (y.num*x.den)=Z0 x y:=by
 unfold J8 Z0
 simp only [← Rat.lt_iff]
theorem a37 (x y:Rat) (lx:rl x<=60000) (ly:rl y<=60000):a9 Tryz.prog 68 [frS (fz x),frS (fz y)] [] (a7 .i64 (Z0 x y)) []:=by
 have r1:=G2 x (by omega)
 have r2:=G2 y (by omega)
 have x1:=E7 x
 have x2:=F7 x
 have y1:=E7 y
 have y2:=F7 y
 have l1:=C7 x.num y.den
 have l2:=C7 y.num x.den
 have t1:=a0B x.num y.den (by omega) (by omega)
 have t2:=a0B y.num x.den (by omega) (by omega)
 have c:=aQ5 (x.num*y.den) (y.num*x.den) (by omega) (by omega)
 rw [aE6] at c
 (refine ac Tryz.func68 ?_;(conv=>whnf);repeat (refine zy ?_;conv=>whnf))
 repeat' (first|refine zz ?_|refine qp r1 ?_|refine qp r2 ?_|refine qp t1 ?_|refine qp t2 ?_|refine qp c ?_|refine zd ?_ ?_<;>intro h<;>try omega|refine zy ?_|fail)<;>conv=>whnf
 all_goals first
  |(exfalso;simp_all;done)
  |exact i6 rfl
theorem a4y (x:Rat) (lx:rl x<=60000):a9 Tryz.prog 69 [frS (fz x)] [] (a7 .i64 (sgR x)) []:=by
 have r1:=G2 x (by omega)
 (refine ac Tryz.func69 ?_;(conv=>whnf);repeat (refine zy ?_;conv=>whnf))
 repeat' (first|refine zz ?_|refine qp r1 ?_|refine zd ?_ ?_<;>intro h<;>try omega|refine zy ?_|fail)<;>conv=>whnf
 all_goals first
  |(exfalso;simp_all;done)
  |exact i6 (a5M x)
theorem b2x (p q:Int) (hq:q≠0) (p0:-9223372036854775808<=p) (p1:p<=9223372036854775807) (q0:-9223372036854775808<=q) (q1:q<=9223372036854775807):
 a9 Tryz.prog 222 [a7 .i64 p,a7 .i64 q] [] (.tup [frS (fz (Rat.divInt p q)),a7 .i64 0]) []:=by
 have l1:=P6 p0 p1
 have l2:=P6 q0 q1
 have o1:=aZ8 p p0 p1
 have o2:=aZ8 q q0 q1
 have n:=aq4 p q hq (by omega) (by omega)
 (refine ac Tryz.func222 ?_;(conv=>whnf);repeat (refine zy ?_;conv=>whnf))
 repeat' (first|refine zz ?_|refine qp o1 ?_|refine qp o2 ?_|refine qp n ?_|refine zd ?_ ?_<;>intro h<;>try omega|refine zy ?_|fail)<;>conv=>whnf
 all_goals exact T5 rfl
theorem b7H (n:Int):fz (n:Rat)=⟨bz n,bz 1⟩:=by unfold fz;rw [Rat.num_intCast,Rat.den_intCast];rfl
theorem G7 (n:Int) (p0:-9223372036854775808<=n) (p1:n<=9223372036854775807):a9 Tryz.prog 66 [a7 .i64 n] [] (frS (fz (n:Rat))) []:=by
 have o1:=aZ8 n p0 p1
 have o2:=aZ8 1 (by decide) (by decide)
 rw [b7H]
 (refine ac Tryz.func66 ?_;(conv=>whnf);repeat (refine zy ?_;conv=>whnf))
 repeat' (first|refine zz ?_|refine qp o1 ?_|refine qp o2 ?_|refine zd ?_ ?_<;>intro h<;>try omega|refine zy ?_|fail)<;>conv=>whnf
 all_goals exact k5 ⟨rfl,rfl,rfl,rfl,trivial⟩
theorem a8F (x:Int) (lx:bl x<=200000):a9 Tryz.prog 290 [bgS (bz x)] [] (bgS (bz x)) []:=by
 have n1:=a7c x (by omega)
 have n2:=a7c (-x) (by rw [a12];omega)
 rw [Int.neg_neg] at n2
 (refine ac Tryz.func290 ?_;(conv=>whnf);repeat (refine zy ?_;conv=>whnf))
 repeat' (first|refine zz ?_|refine qp n1 ?_|refine qp n2 ?_|refine zd ?_ ?_<;>intro h<;>try omega|refine zy ?_|fail)<;>conv=>whnf
 all_goals exact k5 ⟨rfl,rfl,trivial⟩
theorem a5E {x y:Rat}:Z0 x y<0↔x<y:=by unfold Z0;split<;>(try split)<;>simp_all
theorem b1R (x y:Rat):-1<=Z0 x y∧Z0 x y<=1:=by unfold Z0;split<;>(try split)<;>omega
theorem b72 (x y:Rat) (lx:rl x<=60000) (ly:rl y<=60000):a9 Tryz.prog 193 [frS (fz x),frS (fz y)] [] (.tup [frS (fz (at3 x y)),a7 .i64 0]) []:=by
 have e:a9 Tryz.prog 252 [frS (fz x),frS (fz y),a7 .i64 1] [] (.tup [frS (fz (at3 x y)),a7 .i64 0]) []:=by
  have r1:=G2 x (by omega)
  have r2:=G2 y (by omega)
  have x1:=E7 x
  have x2:=F7 x
  have y1:=E7 y
  have y2:=F7 y
  have c:=a37 x y lx ly
  have hr:=b1R x y
  have s1:=a8F x.num (by omega)
  have s2:=a8F x.den (by omega)
  have s3:=a8F y.num (by omega)
  have s4:=a8F y.den (by omega)
  (refine ac Tryz.func252 ?_;(conv=>whnf);repeat (refine zy ?_;conv=>whnf))
  repeat' (first|refine zz ?_|refine qp r1 ?_|refine qp r2 ?_|refine qp c ?_|refine qp s1 ?_|refine qp s2 ?_|refine qp s3 ?_|refine qp s4 ?_|refine zd ?_ ?_<;>intro h<;>try omega|refine zy ?_|fail)<;>conv=>whnf
  ·have h:Z0 x y<0:=by omega
   refine T5 (f:=fz y) ?_
   unfold at3;rw [if_pos (a5E.1 h)]
  ·have h:¬Z0 x y<0:=by omega
   refine T5 (f:=fz x) ?_
   unfold at3;rw [if_neg (fun h'=>h (a5E.2 h'))]
 (refine ac Tryz.func193 ?_;(conv=>whnf);repeat (refine zy ?_;conv=>whnf))
 repeat' (first|refine zz ?_|refine qp e ?_|refine zd ?_ ?_<;>intro h<;>try omega|refine zy ?_|fail)<;>conv=>whnf
 all_goals exact T5 rfl
theorem a3T (n m:Int):a9 Tryz.prog 251 [a7 .i64 n,a7 .i64 m] [] (f5 (btw n 0 m)) []:=by
 (refine ac Tryz.func251 ?_;(conv=>whnf);repeat (refine zy ?_;conv=>whnf))
 repeat' (first|refine zz ?_|refine zd ?_ ?_<;>intro h<;>try omega|refine zy ?_|fail)<;>conv=>whnf
 all_goals (refine b9 ?_;unfold btw;simp;omega)
abbrev aH2 (c:G5):S:=.agg (c.row.map .t)
theorem aj0 (n:Int):btw n 0 29=idx n 30:=b05 n 30
theorem aC5 (c:G5):a9 Tryz.prog 288 [aH2 c] [] (f5 (J7 c)) []:=by
 have w1:=a3T c.scale 29
 have w2:=a3T c.grams 1099511627776
 have w3:=a3T c.permille 1000
 have w4:=a3T c.drift 10000000
 rw [aj0] at w1
 unfold J7
 cases h1:idx c.scale 30<;>cases h2:btw c.grams 0 1099511627776<;>cases h3:btw c.permille 0 1000<;>cases h4:btw c.drift 0 10000000<;>rw [h1] at w1<;>rw [h2] at w2<;>rw [h3] at w3<;>rw [h4] at w4<;>
 ·(refine ac Tryz.func288 ?_;(conv=>whnf);repeat (refine zy ?_;conv=>whnf))
  repeat' (first|refine zz ?_|refine qp w1 ?_|refine qp w2 ?_|refine qp w3 ?_|refine qp w4 ?_|refine zd ?_ ?_<;>intro h<;>try omega|refine zy ?_|fail)<;>conv=>whnf
  all_goals (refine b9 ?_;simp;try omega)
theorem az4 (c:G5) (day:Int):a9 Tryz.prog 248 [aH2 c,a7 .i64 day] [] (f5 (F9 c day)) []:=by
 have w1:=aC5 c
 unfold F9
 cases h1:J7 c<;>rw [h1] at w1<;>
 ·(refine ac Tryz.func248 ?_;(conv=>whnf);repeat (refine zy ?_;conv=>whnf))
  repeat' (first|refine zz ?_|refine qp w1 ?_|refine zd ?_ ?_<;>intro h<;>try omega|refine zy ?_|fail)<;>conv=>whnf
  all_goals (refine b9 ?_;simp [btw];try omega)
theorem ay0 {cs:List G5} {k:Nat} {c:G5} (h:cs[k]? =some c):ao4 cs k=c.since:=by unfold ao4;rw [h];rfl
abbrev aE7 (n:Int):T:=.ptr [ti n]
theorem b0g {a b:Bool} {ρ:List (Option Nat)} {H:Hp} (h:a=b):a3E ρ H (f5 a) (f5 b):=by subst h;exact rfl
def a7w (o:Option Nat):Nat:=o.getD 0
theorem b7j (cs:List G5) (scale day:Int) (hl:cs.length<=1000000):
 a9 Tryz.prog 190 [.c (.t (W5 cs)),a7 .i64 scale,a7 .i64 day] [] (.tup [a7 .i64 (a7w (x5 cs scale day cs.length)),f5 (x5 cs scale day cs.length).isSome]) []:=by
 have l1:(cs.map G5.row).length=cs.length:=by simp
 (refine ac Tryz.func190 ?_;(conv=>whnf);repeat (refine zy ?_;conv=>whnf))
 repeat' (first|refine zz ?_|refine zd ?_ ?_<;>intro h<;>try omega|refine zy ?_|fail)<;>conv=>whnf
 refine d6 c8 (fun k=>([S.c (C.t (W5 cs)),a7 .i64 scale,a7 .i64 day,J,J,J,J,J,a7 .i64 (a7w (x5 cs scale day k)),f5 (x5 cs scale day k).isSome,J,J,S.c (C.t (W5 cs)),a7 .i64 cs.length,a7 .i64 k,J,J,J,J,J,J,J,J,J,J,J,J,J,J,J,J,J,J,J,J,J,J,J,J,J,J,J,J,J,J,J],[])) cs.length (fun _=>True) [] trivial
  ⟨rfl,rfl,trivial,⟨g9 rfl,rfl,rfl,rfl,rfl,g9 rfl,c6 (by simp),rfl,trivial⟩⟩ ?_
 intro k hk _
 by_cases hlt:k<cs.length
 ·obtain ⟨c,hc⟩:∃c,cs[k]? =some c:=⟨_,lg0 hlt⟩
  have cv:=az4 c day
  have hst:x5 cs scale day (k+1)=if decide (c.scale=scale) && F9 c day && a3h cs (x5 cs scale day k) c then some k else x5 cs scale day k:=by
   conv=>lhs;unfold x5
   rw [hc]
  cases hcv:F9 c day with
  |false=>
   rw [hcv] at cv hst
   simp only [Bool.and_false,Bool.false_and,Bool.false_eq_true,if_false] at hst
   rw [← hst]
   conv=>whnf
   repeat' (first|refine zz ?_|refine qp cv ?_|refine b8 hc ?_|refine zd ?_ ?_<;>intro h<;>try omega|refine zy ?_|fail)<;>conv=>whnf
   all_goals first
    |omega
    |exact ⟨hlt,trivial,[],rfl,rfl,trivial,⟨rfl,rfl,rfl,rfl,rfl,rfl,rfl,rfl,trivial⟩⟩
  |true=>
   rw [hcv] at cv hst
   cases hf:x5 cs scale day k with
   |none=>
    rw [hf] at hst
    conv=>whnf
    repeat' (first|refine zz ?_|refine qp cv ?_|refine b8 hc ?_|refine zd ?_ ?_<;>intro h<;>try omega|refine zy ?_|fail)<;>conv=>whnf
    ·exact ⟨hlt,trivial,[],rfl,rfl,trivial,⟨rfl,rfl,rfl,c6 (by rw [hst];simp [*,a3h,a7w]),b0g (by rw [hst];simp [*,a3h]),rfl,rfl,rfl,trivial⟩⟩
    ·exact ⟨hlt,trivial,[],rfl,rfl,trivial,⟨rfl,rfl,rfl,c6 (by rw [hst];simp [*,a3h,a7w]),b0g (by rw [hst];simp [*,a3h]),rfl,rfl,rfl,trivial⟩⟩
   |some b=>
    rw [hf] at hst
    obtain ⟨hb,cb,hcb,_⟩:=I4 hf
    have hsb:=ay0 hcb
    conv=>whnf
    repeat' (first|refine zz ?_|refine qp cv ?_|refine b8 hc ?_|refine b8 hcb ?_|refine zd ?_ ?_<;>intro h<;>try omega|refine zy ?_|fail)<;>conv=>whnf
    all_goals first
     |exact ⟨hlt,trivial,[],rfl,rfl,trivial,⟨rfl,rfl,rfl,c6 (by rw [hst];simp [*,a3h,a7w]),b0g (by rw [hst];simp [*,a3h]),rfl,rfl,rfl,trivial⟩⟩
     |(exfalso;simp_all;done)
 ·have hke:k=cs.length:=by omega
  subst hke
  conv=>whnf
  repeat' (first|refine zz ?_|refine zd ?_ ?_<;>intro h<;>try omega|refine zy ?_|fail)<;>conv=>whnf
  all_goals first
   |omega
   |exact k5 ⟨rfl,rfl,trivial⟩
theorem ap3 (r:z4) (scale day:Int):a9 Tryz.prog 250 (.agg (r.row.map .t)::[aE7 scale,aE7 day].map fun x=>.c (.t x)) [] (f5 (decide (r.scale=scale) && decide (r.since<=day))) []:=by
 (refine ac Tryz.func250 ?_;(conv=>whnf);repeat (refine zy ?_;conv=>whnf))
 repeat' (first|refine zz ?_|refine zd ?_ ?_<;>intro h<;>try omega|refine zy ?_|fail)<;>conv=>whnf
 all_goals (refine b9 ?_;simp [*];try omega)
abbrev b7x (r:z4):S:=.agg (r.row.map .t)
def B7 {α:Type} (q:α->Bool):List α->Nat->Int
 |[],_=>-1
 |x::r,k=>if q x then k else B7 q r (k+1)
theorem a31 {α:Type} (q:α->Bool):∀(l:List α) (k:Nat),decide (0<=B7 q l k)=l.any q
 |[],k=>by simp [B7]
 |x::r,k=>by
  unfold B7
  rw [List.any_cons]
  cases h:q x with
  |true=>simp
  |false=>simpa using a31 q r (k+1)
theorem aL2 (rs:List z4) (hl:rs.length<=1000000) (g:FuncId) (caps:List T) (q:z4->Bool) (hg:∀r ∈ rs,a9 Tryz.prog g (b7x r::caps.map fun x=>.c (.t x)) [] (f5 (q r)) []):
 a9 Tryz.prog 289 [.c (.t (G1 rs)),.c (.t (.fn (.func g) caps))] [] (a7 .i64 (B7 q rs 0)) []:=by
 have l1:(rs.map z4.row).length=rs.length:=by simp
 (refine ac Tryz.func289 ?_;(conv=>whnf);repeat (refine zy ?_;conv=>whnf))
 repeat' (first|refine zz ?_|refine zd ?_ ?_<;>intro h<;>try omega|refine zy ?_|fail)<;>conv=>whnf
 refine d6 c8 (fun k=>([S.c (C.t (G1 rs)),S.c (C.t (T.fn (.func g) caps)),J,J,J,J,J,a7 .i64 rs.length,a7 .i64 k,J,J,J,J,J,J,J,J,J,J],[])) rs.length (fun k=>B7 q (rs.drop k) k=B7 q rs 0) [] rfl
  ⟨rfl,rfl,trivial,⟨g9 rfl,g9 rfl,c6 (by simp),rfl,trivial⟩⟩ ?_
 intro k hk hI
 by_cases hlt:k<rs.length
 ·obtain ⟨r,hr⟩:∃r,rs[k]? =some r:=⟨_,lg0 hlt⟩
  have hd:rs.drop k=r::rs.drop (k+1):=by
   rw [List.drop_eq_getElem_cons hlt]
   rw [lg0 hlt] at hr
   injection hr with hr
   rw [hr]
  have hgr:=hg r (lg2 hr)
  have ha:(b7x r::caps.map fun x=>S.c (C.t x)).all S.isT=true:=by simp [S.isT,C.isT,z4.row]
  rw [hd] at hI
  have hI:(if q r then (k:Int) else B7 q (rs.drop (k+1)) (k+1))=B7 q rs 0:=hI
  cases hq:q r with
  |true=>
   rw [hq] at hgr hI
   conv=>whnf
   repeat' (first|refine zz ?_|refine .inl ⟨_,_,x4 hgr ha rfl,?_⟩|refine b8 hr ?_|refine zd ?_ ?_<;>intro h<;>try omega|refine zy ?_|fail)<;>conv=>whnf
   all_goals first
    |omega
    |exact i6 hI
  |false=>
   rw [hq] at hgr hI
   conv=>whnf
   repeat' (first|refine zz ?_|refine .inl ⟨_,_,x4 hgr ha rfl,?_⟩|refine b8 hr ?_|refine zd ?_ ?_<;>intro h<;>try omega|refine zy ?_|fail)<;>conv=>whnf
   all_goals first
    |omega
    |exact ⟨hlt,by simpa using hI,[],rfl,rfl,trivial,⟨rfl,rfl,rfl,rfl,trivial⟩⟩
 ·have hke:k=rs.length:=by omega
  subst hke
  rw [List.drop_of_length_le (Nat.le_refl _)] at hI
  conv=>whnf
  repeat' (first|refine zz ?_|refine zd ?_ ?_<;>intro h<;>try omega|refine zy ?_|fail)<;>conv=>whnf
  all_goals first
   |omega
   |exact i6 hI
theorem af0 (rs:List z4) (hl:rs.length<=1000000) (g:FuncId) (caps:List T) (q:z4->Bool) (hg:∀r ∈ rs,a9 Tryz.prog g (b7x r::caps.map fun x=>.c (.t x)) [] (f5 (q r)) []):
 a9 Tryz.prog 249 [.c (.t (G1 rs)),.c (.t (.fn (.func g) caps))] [] (f5 (rs.any q)) []:=by
 have ix:=aL2 rs hl g caps q hg
 (refine ac Tryz.func249 ?_;(conv=>whnf);repeat (refine zy ?_;conv=>whnf))
 repeat' (first|refine zz ?_|refine qp ix ?_|refine zd ?_ ?_<;>intro h<;>try omega|refine zy ?_|fail)<;>conv=>whnf
 all_goals (refine b9 ?_;rw [← a31 q rs 0];simp;omega)
theorem aL5 (rs:List z4) (hl:rs.length<=1000000) (scale day:Int):a9 Tryz.prog 191 [.c (.t (G1 rs)),a7 .i64 scale,a7 .i64 day] [] (f5 (a1f rs scale day)) []:=by
 have ct:=af0 rs hl 250 [aE7 scale,aE7 day] _ (fun r _=>ap3 r scale day)
 (refine ac Tryz.func191 ?_;(conv=>whnf);repeat ((first|refine b0x ?_|refine zy ?_);conv=>whnf))
 repeat' (first|refine zz ?_|refine qp ct ?_|refine zd ?_ ?_<;>intro h<;>try omega|refine zy ?_|fail)<;>conv=>whnf
 all_goals (refine b9 ?_;symm;assumption)
theorem a2W {c:G5} {day:Int} (h:F9 c day=true):0<=c.since∧c.since<=day∧day<=c.till∧c.till<=100000∧0<=c.grams∧c.grams<=1099511627776∧0<=c.permille∧c.permille<=1000∧0<=c.drift∧c.drift<=10000000:=by
 unfold F9 J7 btw at h
 simp only [Bool.and_eq_true,decide_eq_true_eq] at h
 omega
abbrev M5:Fr:=⟨⟨0,[]⟩,⟨0,[]⟩⟩
theorem b43 {f f':Fr} {b b':Bool} {H1:Hp} (h:f=f') (h2:b=b'):Fin 0 (.tup [frS f,f5 b]) H1 (.tup [frS f',f5 b']) []:=by
 subst h h2;exact k5 ⟨⟨rfl,rfl,rfl,rfl,trivial⟩,rfl,trivial⟩
structure b1M (c:G5) (reading day:Int):Prop where
 p0:0<=c.permille*reading
 p1:c.permille*reading<=1000*1099511627776
 d0:0<=c.drift*(day - c.since)
 d1:c.drift*(day - c.since)<=10000000*100000
theorem b1M.of {c:G5} {reading day:Int} (h:F9 c day=true) (hr:btw reading 0 1099511627776=true):b1M c reading day:=by
 have hc:=a2W h
 rw [S4] at hr
 exact ⟨Int.mul_nonneg (by omega) (by omega),Int.mul_le_mul (by omega) (by omega) (by omega) (by omega),Int.mul_nonneg (by omega) (by omega),Int.mul_le_mul (by omega) (by omega) (by omega) (by omega)⟩
theorem aP3 {c:G5} {reading day:Int} (h:F9 c day=true) (hr:btw reading 0 1099511627776=true):rl (a1I c reading day)<=9:=by
 have i:=b1M.of h hr
 have hc:=a2W h
 obtain ⟨p0,p1,d0,d1⟩:=i
 unfold a1I
 have h1:=a3a (Rat.divInt (c.permille*reading) 1000) ((c.grams+c.drift*(day - c.since):Int):Rat)
 have h2:rl (Rat.divInt (c.permille*reading) 1000)<=4:=Nat.le_trans (N0 (by decide)) (by have:=P6 (x:=c.permille*reading) (by omega) (by omega);have:=P6 (x:=1000) (by decide) (by decide);omega)
 have h3:rl ((c.grams+c.drift*(day - c.since):Int):Rat)<=4:=by rw [a1c];have:=P6 (x:=c.grams+c.drift*(day - c.since)) (by omega) (by omega);omega
 omega
theorem b68 (c:G5) (reading day:Int) (h:F9 c day=true):a9 Tryz.prog 192 [aH2 c,a7 .i64 reading,a7 .i64 day] []
 (.tup [frS (if btw reading 0 1099511627776 then fz (a1I c reading day) else M5),f5 (btw reading 0 1099511627776)]) []:=by
 have cv:=az4 c day
 have wi:=a3T reading 1099511627776
 rw [h] at cv
 have hc:=a2W h
 cases hr:btw reading 0 1099511627776 with
 |false=>
  rw [hr] at wi
  (refine ac Tryz.func192 ?_;(conv=>whnf);repeat (refine zy ?_;conv=>whnf))
  repeat' (first|refine zz ?_|refine qp cv ?_|refine qp wi ?_|refine zd ?_ ?_<;>intro h<;>try omega|refine zy ?_|fail)<;>conv=>whnf
  all_goals first
   |(exfalso;simp_all;done)
   |exact k5 ⟨⟨rfl,rfl,rfl,rfl,trivial⟩,rfl,trivial⟩
 |true=>
  rw [hr] at wi
  obtain ⟨p0,p1,d0,d1⟩:=b1M.of h hr
  rw [S4] at hr
  have fo:=b2x (c.permille*reading) 1000 (by decide) (by omega) (by omega) (by decide) (by decide)
  have fi:=G7 (c.grams+c.drift*(day - c.since)) (by omega) (by omega)
  have h2:rl (Rat.divInt (c.permille*reading) 1000)<=4:=Nat.le_trans (N0 (by decide)) (by have:=P6 (x:=c.permille*reading) (by omega) (by omega);have:=P6 (x:=1000) (by decide) (by decide);omega)
  have h3:rl ((c.grams+c.drift*(day - c.since):Int):Rat)<=4:=by rw [a1c];have:=P6 (x:=c.grams+c.drift*(day - c.since)) (by omega) (by omega);omega
  have ad:=a1P (Rat.divInt (c.permille*reading) 1000) ((c.grams+c.drift*(day - c.since):Int):Rat) (by omega) (by omega)
  (refine ac Tryz.func192 ?_;(conv=>whnf);repeat (refine zy ?_;conv=>whnf))
  repeat' (first|refine zz ?_|refine qp cv ?_|refine qp wi ?_|refine qp fo ?_|refine qp fi ?_|refine qp ad ?_|refine qp 7 ?_|refine qp 15 ?_|refine bl0 [7] ?_|refine bl0 [15] ?_|refine zd ?_ ?_<;>intro h<;>try omega|refine zy ?_|fail)<;>conv=>whnf
  all_goals first
   |(exfalso;simp_all;done)
   |exact b43 rfl rfl
abbrev ivL (o:Option (Rat × Rat)):List S:=match o with
 |some (lo,hi)=>[frS (fz lo),frS (fz hi),f5 true]
 |none=>[frS M5,frS M5,f5 false]
theorem b5y {x y:Rat} {n:Nat} (h1:rl x<=n) (h2:rl y<=n):rl (at3 x y)<=n:=by unfold at3;split<;>assumption
theorem aD5 {cs:List G5} {rs:List z4} {scale reading day:Int} {lo hi:Rat} (h:H6 cs rs scale reading day=some (lo,hi)):rl lo<=20∧rl hi<=20:=by
 unfold H6 at h
 split at h
 ·cases h
 ·rename_i i hi
  obtain ⟨hb,c,hc,_,hcv⟩:=I4 hi
  have e:a0n cs i=c:=by unfold a0n;rw [hc];rfl
  rw [e] at h
  split at h
  ·cases h
  ·split at h
   ·rename_i hr
    injection h with h
    injection h with h1 h2
    have l1:=aP3 hcv hr
    rw [S4] at hr
    have l2:rl (reading:Rat)<=4:=by rw [a1c];have:=P6 (x:=reading) (by omega) (by omega);omega
    have l3:=a3a (reading:Rat) (a1I c reading day)
    have l4:=ao2 (reading:Rat) (a1I c reading day)
    refine ⟨?_,by rw [← h2];omega⟩
    rw [← h1]
    exact b5y (by omega) (by rw [a6e];omega)
   ·cases h
theorem aO7 (cs:List G5) (rs:List z4) (hl:cs.length<=1000000) (hl2:rs.length<=1000000) (scale reading day:Int):
 a9 Tryz.prog 116 [.c (.t (W5 cs)),.c (.t (G1 rs)),a7 .i64 scale,a7 .i64 reading,a7 .i64 day] [] (.tup (ivL (H6 cs rs scale reading day))) []:=by
 have f:=b7j cs scale day hl
 have r:=aL5 rs hl2 scale day
 unfold H6
 cases hf:x5 cs scale day cs.length with
 |none=>
  rw [hf] at f
  (refine ac Tryz.func116 ?_;(conv=>whnf);repeat (refine zy ?_;conv=>whnf))
  repeat' (first|refine zz ?_|refine qp f ?_|refine qp r ?_|refine qp 1 ?_|refine qp 6 ?_|refine bl0 [1] ?_|refine bl0 [6] ?_|refine zd ?_ ?_<;>intro h<;>try omega|refine zy ?_|fail)<;>conv=>whnf
  all_goals first
   |(exfalso;simp_all;done)
   |exact k5 ⟨⟨rfl,rfl,rfl,rfl,trivial⟩,⟨rfl,rfl,rfl,rfl,trivial⟩,rfl,trivial⟩
 |some i=>
  rw [hf] at f
  obtain ⟨hb,c,hc,_,hcv⟩:=I4 hf
  have e:a0n cs i=c:=by unfold a0n;rw [hc];rfl
  have er:=b68 c reading day hcv
  simp only [e]
  cases hrec:a1f rs scale day with
  |true=>
   rw [hrec] at r
   (refine ac Tryz.func116 ?_;(conv=>whnf);repeat (refine zy ?_;conv=>whnf))
   repeat' (first|refine zz ?_|refine qp f ?_|refine qp r ?_|refine qp 1 ?_|refine qp 6 ?_|refine bl0 [1] ?_|refine bl0 [6] ?_|refine zd ?_ ?_<;>intro h<;>try omega|refine zy ?_|fail)<;>conv=>whnf
   all_goals first
    |(exfalso;simp_all;done)
    |exact k5 ⟨⟨rfl,rfl,rfl,rfl,trivial⟩,⟨rfl,rfl,rfl,rfl,trivial⟩,rfl,trivial⟩
  |false=>
   rw [hrec] at r
   cases hr:btw reading 0 1099511627776 with
   |false=>
    rw [hr] at er
    (refine ac Tryz.func116 ?_;(conv=>whnf);repeat (refine zy ?_;conv=>whnf))
    repeat' (first|refine zz ?_|refine qp f ?_|refine qp r ?_|refine qp er ?_|refine qp 1 ?_|refine qp 9 ?_|refine b8 hc ?_|refine bl0 [1] ?_|refine bl0 [9] ?_|refine zd ?_ ?_<;>intro h<;>try omega|refine zy ?_|fail)<;>conv=>whnf
    all_goals first
     |exact k5 ⟨⟨rfl,rfl,rfl,rfl,trivial⟩,⟨rfl,rfl,rfl,rfl,trivial⟩,rfl,trivial⟩
     |(exfalso;simp_all;done)
   |true=>
    have l1:=aP3 hcv hr
    rw [hr] at er
    rw [S4] at hr
    have l2:rl (reading:Rat)<=4:=by rw [a1c];have:=P6 (x:=reading) (by omega) (by omega);omega
    have fi:=G7 reading (by omega) (by omega)
    have f0:=G7 0 (by omega) (by omega)
    have sb:=aO4 (reading:Rat) (a1I c reading day) (by omega) (by omega)
    have ad:=a1P (reading:Rat) (a1I c reading day) (by omega) (by omega)
    have l4:=ao2 (reading:Rat) (a1I c reading day)
    have mx:=b72 ((reading:Rat) - a1I c reading day) ((0:Int):Rat) (by omega) (by rw [a6e];omega)
    (refine ac Tryz.func116 ?_;(conv=>whnf);repeat (refine zy ?_;conv=>whnf))
    repeat' (first|refine zz ?_|refine qp f ?_|refine qp r ?_|refine qp er ?_|refine qp fi ?_|refine qp f0 ?_|refine qp sb ?_|refine qp ad ?_|refine qp mx ?_|refine qp 1 ?_|refine qp 9 ?_|refine qp 5 ?_|refine b8 hc ?_|refine bl0 [1] ?_|refine bl0 [9] ?_|refine bl0 [5] ?_|refine zd ?_ ?_<;>intro h<;>try omega|refine zy ?_|fail)<;>conv=>whnf
    all_goals first
     |exact k5 ⟨⟨rfl,rfl,rfl,rfl,trivial⟩,⟨rfl,rfl,rfl,rfl,trivial⟩,rfl,trivial⟩
     |(exfalso;simp_all;done)
def j5 (f:Fr):List T:=[ti f.p.sg,F8 f.p.dl,ti f.q.sg,F8 f.q.dl]
abbrev B4 (l:List Fr):T:=.sl 4 .any (l.map j5)
abbrev j8 (l:List Fr):S:=.c (.t (B4 l))
def a0Y (l:List Fr):List T:=[B4 l]
abbrev b90 (h:List (List Fr)):T:=.sl 1 .any (h.map a0Y)
abbrev aH3 (h:List (List Fr)):S:=.c (.t (b90 h))
theorem a17 (l:List Rat) {k:Nat} {x:Rat} (h:l[k]? =some x):(l.map fz)[k]? =some (fz x):=by rw [List.getElem?_map,h];rfl
theorem aC6 {f f':Fr} {H1:Hp} (h:f=f'):Fin 0 (frS f) H1 (frS f') []:=by subst h;exact k5 ⟨rfl,rfl,rfl,rfl,trivial⟩
abbrev frB (f:Fr):Blk:={ mode:=.live,elem:=83,size:=4,rows:=[frC f],box:=true }
theorem K9 (f:Fr):G4 [frC f]:=by
 intro r hr c hc
 simp at hr
 subst hr
 simp [frC] at hc
 rcases hc with rfl|rfl|rfl|rfl<;>rfl
theorem aY0 {x:Rat}:sgR x<0↔x<0:=by unfold sgR;split<;>(try split)<;>simp_all
theorem aX0 {x y:Rat}:Z0 x y<=0↔x<=y:=by
 unfold Z0
 split
 ·simp;grind
 ·split
  ·simp;grind
  ·simp;grind
theorem a6a {x y:Rat}:Z0 x y > 0↔y<x:=by
 have:=aX0 (x:=x) (y:=y)
 constructor
 ·intro h;have h2:¬x<=y:=fun h'=>by have:=this.2 h';omega
  grind
 ·intro h;have h2:¬Z0 x y<=0:=fun h'=>by have:=this.1 h';grind
  omega
def L7.row (f:L7):List T:=[ti f.mv,ti f.kind,ti f.grams]
def Q6.row (c:Q6):List T:=[ti c.mv,ti c.kind]
abbrev a9R (l:List L7):T:=.sl 3 .any (l.map L7.row)
abbrev a1C (l:List Q6):T:=.sl 2 .any (l.map Q6.row)
def trT (t:e7):List T:=[ti t.ev.mats,ti t.ev.hhs,ti t.ev.scs,a0D t.ev.places,a0J t.ev.moves,W5 t.ev.certs,G1 t.ev.recalls,Z7 t.ev.purities,a9R t.finds,a1C t.cleans]
def trC (t:e7):List C:=[.t (ti t.ev.mats),.t (ti t.ev.hhs),.t (ti t.ev.scs),.t (a0D t.ev.places),.t (a0J t.ev.moves),.t (W5 t.ev.certs),.t (G1 t.ev.recalls),.t (Z7 t.ev.purities),.t (a9R t.finds),.t (a1C t.cleans)]
abbrev trS (t:e7):S:=.agg (trC t)
structure e7.Sized (t:e7):Prop where
 ev:t.ev.Sized
 f:t.finds.length<=1000000
 c:t.cleans.length<=1000000
theorem a1X {x:Rat}:sgR x=0↔x=0:=by unfold sgR;split<;>(try split)<;>simp_all<;>grind
theorem b3l (e:Ev) (mv kind:Int):a9 Tryz.prog 59 [evS e,a7 .i64 mv,a7 .i64 kind] [] (a7 .i64 (a0z e mv kind)) []:=by
 have l2:(e.moves.map p6.row).length=e.moves.length:=by simp
 (refine ac Tryz.func59 ?_;(conv=>whnf);repeat ((first|refine b0x ?_|refine zy ?_);conv=>whnf))
 repeat' (first|refine zz ?_|refine zd ?_ ?_<;>intro h<;>try omega|refine zy ?_|fail)<;>conv=>whnf
 all_goals (refine i6 ?_;unfold a0z;(repeat' split)<;>first|rfl|omega)
theorem a67 (t:e7) (hs:t.Sized):a9 Tryz.prog 16 [trS t] [] (a7 .i64 (o9 t)) []:=by
 have l1:=hs.f
 have l2:=hs.c
 have ck:=b5D t.ev hs.ev
 have m1:(t.finds.map L7.row).length=t.finds.length:=by simp
 have m2:(t.cleans.map Q6.row).length=t.cleans.length:=by simp
 by_cases h0:z6 t.ev≠0
 ·have e1:o9 t=z6 t.ev:=by unfold o9;rw [if_pos h0]
  rw [e1]
  (refine ac Tryz.func16 ?_;(conv=>whnf);repeat ((first|refine b0x ?_|refine zy ?_);conv=>whnf))
  repeat' (first|refine zz ?_|refine qp ck ?_|refine zd ?_ ?_<;>intro h<;>try omega|refine zy ?_|fail)<;>conv=>whnf
  all_goals first
   |omega
   |exact i6 rfl
 have h0:z6 t.ev=0:=by omega
 rw [h0] at ck
 by_cases h1:20<t.finds.length∨50<t.cleans.length
 ·have e1:o9 t=6:=by unfold o9;rw [if_neg (by omega),if_pos h1]
  rw [e1]
  (refine ac Tryz.func16 ?_;(conv=>whnf);repeat ((first|refine b0x ?_|refine zy ?_);conv=>whnf))
  repeat' (first|refine zz ?_|refine qp ck ?_|refine zd ?_ ?_<;>intro h<;>try omega|refine zy ?_|fail)<;>conv=>whnf
  all_goals first
   |omega
   |exact i6 rfl
 have e1:o9 t=if J0 t.ev t.finds≠0 then J0 t.ev t.finds else J4 t.ev t.cleans:=by unfold o9;rw [if_neg (by omega),if_neg h1]
 rw [e1]
 (refine ac Tryz.func16 ?_;(conv=>whnf);repeat ((first|refine b0x ?_|refine zy ?_);conv=>whnf))
 repeat' (first|refine zz ?_|refine qp ck ?_|refine zd ?_ ?_<;>intro h<;>try omega|refine zy ?_|fail)<;>conv=>whnf
 all_goals try omega
 refine d6 c8 (fun k=>([J,S.c (C.t (T.ptr (trT t))),J,J,J,J,J,J,J,J,J,J,J,J,J,J,J,J,J,J,J,J,J,J,J,J,J,S.c (C.t (a9R t.finds)),a7 .i64 t.finds.length,a7 .i64 k,J,J,J,J,J,J,J,J,J,J,J,J,J,J,J,J,J,J,J,J,J,J,J,J,J,J,J,J,J,J,J,J,J,J,J,J,J,J,J,J],[])) t.finds.length (fun k=>J0 t.ev t.finds=J0 t.ev (t.finds.drop k)) [] rfl
  ⟨rfl,rfl,trivial,⟨rfl,rfl,c6 (by simp),rfl,trivial⟩⟩ ?_
 intro k hk hI
 by_cases hlt:k<t.finds.length
 ·obtain ⟨f,hf⟩:∃f,t.finds[k]? =some f:=⟨_,lg0 hlt⟩
  have mk:=b3l t.ev f.mv f.kind
  rw [X0 hf,J0] at hI
  by_cases hm:a0z t.ev f.mv f.kind≠0
  ·rw [if_pos hm] at hI
   rw [hI,if_pos hm]
   conv=>whnf
   repeat' (first|refine zz ?_|refine qp mk ?_|refine b8 hf ?_|refine zd ?_ ?_<;>intro h<;>try omega|refine zy ?_|fail)<;>conv=>whnf
   all_goals first
    |omega
    |exact i6 rfl
  ·rw [if_neg hm] at hI
   by_cases hg:f.grams<1∨1099511627776<f.grams
   ·rw [if_pos hg] at hI
    rw [hI]
    conv=>whnf
    repeat' (first|refine zz ?_|refine qp mk ?_|refine b8 hf ?_|refine zd ?_ ?_<;>intro h<;>try omega|refine zy ?_|fail)<;>conv=>whnf
    all_goals first
     |omega
     |exact i6 rfl
   ·rw [if_neg hg] at hI
    conv=>whnf
    repeat' (first|refine zz ?_|refine qp mk ?_|refine b8 hf ?_|refine zd ?_ ?_<;>intro h<;>try omega|refine zy ?_|fail)<;>conv=>whnf
    all_goals first
     |omega
     |exact ⟨hlt,hI,[],rfl,rfl,trivial,⟨rfl,rfl,rfl,rfl,trivial⟩⟩
 ·rw [List.drop_of_length_le (by omega)] at hI
  have hI:J0 t.ev t.finds=0:=hI
  rw [hI,if_neg (by omega)]
  conv=>whnf
  repeat' (first|refine zz ?_|refine zd ?_ ?_<;>intro h<;>try omega|refine zy ?_|fail)<;>conv=>whnf
  all_goals try omega
  refine d6 c8 (fun k=>([J,S.c (C.t (T.ptr (trT t))),J,J,J,J,J,J,J,J,J,J,J,J,J,J,J,J,J,J,J,J,J,J,J,J,J,J,J,J,J,J,J,J,J,J,J,J,J,J,J,J,J,J,J,J,J,J,J,J,J,J,J,S.c (C.t (a1C t.cleans)),a7 .i64 t.cleans.length,a7 .i64 k,J,J,J,J,J,J,J,J,J,J,J,J,J,J],[])) t.cleans.length (fun k=>J4 t.ev t.cleans=J4 t.ev (t.cleans.drop k)) [] rfl
   ⟨rfl,rfl,trivial,⟨rfl,rfl,c6 (by simp),rfl,trivial⟩⟩ ?_
  intro j hj hJ
  by_cases hjt:j<t.cleans.length
  ·obtain ⟨c,hc⟩:∃c,t.cleans[j]? =some c:=⟨_,lg0 hjt⟩
   have mk:=b3l t.ev c.mv c.kind
   rw [X0 hc,J4] at hJ
   by_cases hm:a0z t.ev c.mv c.kind≠0
   ·rw [if_pos hm] at hJ
    rw [hJ]
    conv=>whnf
    repeat' (first|refine zz ?_|refine qp mk ?_|refine b8 hc ?_|refine zd ?_ ?_<;>intro h<;>try omega|refine zy ?_|fail)<;>conv=>whnf
    all_goals first
     |omega
     |exact i6 rfl
   ·rw [if_neg hm] at hJ
    conv=>whnf
    repeat' (first|refine zz ?_|refine qp mk ?_|refine b8 hc ?_|refine zd ?_ ?_<;>intro h<;>try omega|refine zy ?_|fail)<;>conv=>whnf
    all_goals first
     |omega
     |exact ⟨hjt,hJ,[],rfl,rfl,trivial,⟨rfl,rfl,rfl,rfl,trivial⟩⟩
  ·rw [List.drop_of_length_le (by omega)] at hJ
   have hJ:J4 t.ev t.cleans=0:=hJ
   rw [hJ]
   conv=>whnf
   repeat' (first|refine zz ?_|refine zd ?_ ?_<;>intro h<;>try omega|refine zy ?_|fail)<;>conv=>whnf
   all_goals first
    |omega
    |exact i6 rfl
theorem b6K (e:Ev) {i:Nat} {x:p6} (h0:z6 e=0) (hx:e.moves[i]? =some x):a9 Tryz.prog 70 [evS e,a7 .i64 i] [] (f5 (decide (m9 e x.src=0))) []:=by
 have hm:=B3 h0 (lg2 hx)
 have ms:=O4 hm
 obtain ⟨s,hsn⟩:∃s:Nat,x.src=s:=⟨x.src.toNat,by omega⟩
 obtain ⟨pl,hpl⟩:∃pl,e.places[s]? =some pl:=⟨_,lg0 (by omega)⟩
 have hkd:m9 e x.src=pl.kind:=by rw [hsn];exact ag3 hpl
 rw [hkd]
 (refine ac Tryz.func70 ?_;(conv=>whnf);repeat ((first|refine b0x ?_|refine zy ?_);conv=>whnf))
 repeat' (first|refine zz ?_|refine b8 hx ?_|refine E6 hsn hpl ?_|refine zd ?_ ?_<;>intro h<;>try omega|refine zy ?_|fail)<;>conv=>whnf
 all_goals (refine b9 ?_;simp [*])
def i9 (x:Int × Rat):List T:=ti x.1::j5 (fz x.2)
abbrev a6I (l:List (Int × Rat)):T:=.sl 5 .any (l.map i9)
def w5 (w:B1):List T:=a6I w.terms::ti w.kind::j5 (fz w.value)
def b9g (w:B1):List C:=.t (a6I w.terms)::.t (ti w.kind)::frC (fz w.value)
abbrev az2 (w:B1):S:=.agg (b9g w)
abbrev M3 (l:List B1):T:=.sl 6 .any (l.map w5)
abbrev a2i (s:f7):S:=.agg [.t (ti s.n),.t (M3 s.rows)]
def a5k (w:Nat) (g:Nat->Rat):List Fr:=(List.range w).map fun m=>fz (g m)
theorem a9x (w:Nat) (g:Nat->Rat):(a5k w g).length=w:=by simp [a5k]
theorem a6s {w:Nat} {g:Nat->Rat} {m:Nat} (h:m<w):(a5k w g)[m]? =some (fz (g m)):=by simp [a5k,h]
theorem aB1 {w:Nat} {g:Nat->Rat} {m:Nat} {v:Rat} (h:m<w):(a5k w g).set m (fz v)=a5k w (fun j=>if j=m then v else g j):=by
 apply List.ext_getElem?
 intro j
 by_cases hj:j<w
 ·rw [a6s hj,List.getElem?_set,a9x]
  by_cases hjm:m=j
  ·subst hjm;simp [h]
  ·rw [if_neg hjm,a6s hj,if_neg (by omega)]
 ·rw [List.getElem?_eq_none (by simp [a9x];omega),List.getElem?_eq_none (by simp [a9x];omega)]
abbrev b5Z (l:List Fr):Blk:={ mode:=.live,elem:=83,size:=4,rows:=toC (l.map j5),box:=false }
theorem b3Z {row:List Fr} {i n:Nat} {y:Fr} (h:n=i):s8 (b5Z row) ((toC (row.map j5)).set n (frC y))=b5Z (row.set i y):=by
 subst h
 unfold s8
 simp [toC,List.map_set,j5]
abbrev zR:Rat:=((0:Int):Rat)
def a1H (m w:Nat):List Fr:=(List.range w).map fun j=>if j<m then fz zR else M5
theorem a4x (m w:Nat):(a1H m w).length=w:=by simp [a1H]
theorem a4E {m w j:Nat} (h:j<w):(a1H m w)[j]? =some (if j<m then fz zR else M5):=by simp [a1H,h]
theorem b1y {m w:Nat} (h:m<w):(a1H m w).set m (fz zR)=a1H (m+1) w:=by
 apply List.ext_getElem?
 intro j
 by_cases hj:j<w
 ·rw [a4E hj,List.getElem?_set,a4x]
  by_cases hjk:m=j
  ·subst hjk;simp [h]
  ·rw [if_neg hjk,a4E hj]
   have:(j<m+1)↔(j<m):=by omega
   simp only [this]
 ·rw [List.getElem?_eq_none (by simp [a4x];omega),List.getElem?_eq_none (by simp [a4x];omega)]
theorem b0C (w:Nat):a1H w w=a5k w (fun _=>zR):=by
 unfold a1H a5k
 refine List.map_congr_left fun j hj=>?_
 rw [if_pos (List.mem_range.1 hj)]
theorem aP8 (w:Nat):a1H 0 w=List.replicate w M5:=by
 apply List.ext_getElem?
 intro j
 by_cases hj:j<w
 ·rw [a4E hj];simp [hj]
 ·rw [List.getElem?_eq_none (by simp [a4x];omega),List.getElem?_eq_none (by simp;omega)]
theorem Q5 {e:Ev} (h:z6 e=0):1<=e.mats∧e.mats<=6∧e.places.length<=100∧e.moves.length<=200:=by
 obtain ⟨h1,h2,_⟩:=ac7 h
 unfold a1j at h1
 simp only [Bool.or_eq_false_iff,decide_eq_false_iff_not] at h1
 omega
abbrev n9 (l:List (Int × Rat)):S:=.c (.t (a6I l))
def a20 (l:List (Int × Rat)):Nat->Int
 |0=>-1
 |k+1=>((l[k]?).map (·.1)).getD 0
theorem O6 {l:List (Int × Rat)} {k:Nat} {t:Int × Rat} (h:l[k]? =some t):a20 l (k+1)=t.1:=by simp [a20,h]
theorem L5 (l:List (Int × Rat)) (n:Int) (hl:l.length<=1000000) (hB:∀t ∈ l,rl t.2<=200):a9 Tryz.prog 161 [n9 l,a7 .i64 n] [] (f5 (decide (0<=n) && f8 (-1) n l)) []:=by
 have m1:(l.map i9).length=l.length:=by simp
 by_cases h0:n<0
 ·rw [decide_eq_false (by omega),Bool.false_and]
  (refine ac Tryz.func161 ?_;(conv=>whnf);repeat ((first|refine b0x ?_|refine zy ?_);conv=>whnf))
  repeat' (first|refine zz ?_|refine zd ?_ ?_<;>intro h<;>try omega|refine zy ?_|fail)<;>conv=>whnf
  all_goals first
   |omega
   |exact b9 rfl
 rw [decide_eq_true (by omega),Bool.true_and]
 (refine ac Tryz.func161 ?_;(conv=>whnf);repeat ((first|refine b0x ?_|refine zy ?_);conv=>whnf))
 repeat' (first|refine zz ?_|refine zd ?_ ?_<;>intro h<;>try omega|refine zy ?_|fail)<;>conv=>whnf
 all_goals try omega
 refine d6 c8 (fun k=>([J,a7 .i64 n,J,J,J,a7 .i64 (a20 l k),J,J,J,J,n9 l,a7 .i64 l.length,a7 .i64 k,J,J,J,J,J,J,J,J,J,J,J,J,J,J,J,J,J,J,J,J,J,J],[])) l.length (fun k=>f8 (-1) n l=f8 (a20 l k) n (l.drop k)) [] rfl
  ⟨rfl,rfl,trivial,⟨rfl,rfl,rfl,c6 (by simp),rfl,trivial⟩⟩ ?_
 intro k hk hI
 by_cases hlt:k<l.length
 ·obtain ⟨t,ht⟩:∃t,l[k]? =some t:=⟨_,lg0 hlt⟩
  obtain ⟨v,c⟩:=t
  have bc:=hB _ (lg2 ht)
  simp only at bc
  have sg:=a4y c (by omega)
  have sz:=a1X (x:=c)
  rw [X0 ht,f8] at hI
  simp only at hI
  by_cases hok:a20 l k<v∧v<n∧c≠0
  ·rw [decide_eq_true hok.1,decide_eq_true hok.2.1,decide_eq_true hok.2.2] at hI
   simp only [Bool.true_and] at hI
   have hne:sgR c≠0:=fun h=>hok.2.2 (sz.1 h)
   obtain ⟨q1,q2,_⟩:=hok
   conv=>whnf
   repeat' (first|refine zz ?_|refine qp sg ?_|refine b8 ht ?_|refine zd ?_ ?_<;>intro h<;>try omega|refine zy ?_|fail)<;>conv=>whnf
   all_goals first
    |omega
    |exact ⟨hlt,by rw [O6 ht];exact hI,[],rfl,rfl,trivial,⟨rfl,c6 (by rw [O6 ht]),rfl,rfl,rfl,trivial⟩⟩
  ·have hF:f8 (-1) n l=false:=by
    rw [hI]
    rw [← Bool.not_eq_true]
    simp only [Bool.and_eq_true,decide_eq_true_eq]
    exact fun h=>hok ⟨h.1.1.1,h.1.1.2,h.1.2⟩
   rw [hF]
   have hor:v<=a20 l k∨n<=v∨sgR c=0:=by
    by_cases q1:a20 l k<v
    ·by_cases q2:v<n
     ·refine .inr (.inr (sz.2 ?_))
      by_cases q3:c=0
      ·exact q3
      ·exact absurd ⟨q1,q2,q3⟩ hok
     ·exact .inr (.inl (by omega))
    ·exact .inl (by omega)
   clear hI hok
   conv=>whnf
   repeat' (first|refine zz ?_|refine qp sg ?_|refine b8 ht ?_|refine zd ?_ ?_<;>intro h<;>try omega|refine zy ?_|fail)<;>conv=>whnf
   all_goals first
    |omega
    |exact b9 rfl
 ·rw [List.drop_of_length_le (by omega)] at hI
  have hI:f8 (-1) n l=true:=hI
  rw [hI]
  conv=>whnf
  repeat' (first|refine zz ?_|refine zd ?_ ?_<;>intro h<;>try omega|refine zy ?_|fail)<;>conv=>whnf
  all_goals first
   |omega
   |exact b9 rfl
structure aD8 (s:f7):Prop where
 n0:s.rows.length<=1000000
 t:∀w ∈ s.rows,w.terms.length<=100∧(∀ t ∈ w.terms,rl t.2<=200)∧rl w.value<=200
theorem aw2 (s:f7) (hb:aD8 s):a9 Tryz.prog 108 [a2i s] [] (f5 (i8 s)) []:=by
 have m1:(s.rows.map w5).length=s.rows.length:=by simp
 have l1:=hb.n0
 by_cases h0:¬(0<=s.n∧s.n<=1500∧s.rows.length<=6000)
 ·have e1:i8 s=false:=by
   unfold i8
   rw [← Bool.not_eq_true]
   simp only [Bool.and_eq_true,decide_eq_true_eq]
   exact fun h=>h0 ⟨h.1.1.1,h.1.1.2,h.1.2⟩
  rw [e1]
  (refine ac Tryz.func108 ?_;(conv=>whnf);repeat ((first|refine b0x ?_|refine zy ?_);conv=>whnf))
  repeat' (first|refine zz ?_|refine zd ?_ ?_<;>intro h<;>try omega|refine zy ?_|fail)<;>conv=>whnf
  all_goals first
   |omega
   |exact b9 rfl
 obtain ⟨c1,c2,c3⟩:=Decidable.not_not.1 h0
 have e1:i8 s=s.rows.all (t9 s.n):=by
  unfold i8
  rw [decide_eq_true c1,decide_eq_true c2,decide_eq_true c3];rfl
 rw [e1]
 clear h0
 (refine ac Tryz.func108 ?_;(conv=>whnf);repeat ((first|refine b0x ?_|refine zy ?_);conv=>whnf))
 repeat' (first|refine zz ?_|refine zd ?_ ?_<;>intro h<;>try omega|refine zy ?_|fail)<;>conv=>whnf
 all_goals try omega
 refine d6 c8 (fun k=>([J,S.c (C.t (T.ptr [ti s.n,M3 s.rows])),J,J,J,J,J,J,J,J,J,J,J,J,J,J,J,J,J,J,S.c (C.t (M3 s.rows)),a7 .i64 s.rows.length,a7 .i64 k,J,J,J,J,J,J,J,J,J,J,J,J,J,J,J,J,J,J,J,J,J,J,J,J,J,J],[])) s.rows.length (fun k=>(s.rows.take k).all (t9 s.n)=true) [] rfl
  ⟨rfl,rfl,trivial,⟨rfl,rfl,c6 (by simp),rfl,trivial⟩⟩ ?_
 intro k hk hI
 by_cases hlt:k<s.rows.length
 ·obtain ⟨w,hw⟩:∃w,s.rows[k]? =some w:=⟨_,lg0 hlt⟩
  obtain ⟨b1,b2,b3⟩:=hb.t w (lg2 hw)
  have rt:=L5 w.terms s.n (by omega) b2
  rw [decide_eq_true c1,Bool.true_and] at rt
  have rv:=G2 w.value (by omega)
  cases hrt:f8 (-1) s.n w.terms with
  |false=>
   rw [hrt] at rt
   have hF:t9 s.n w=false:=by unfold t9;rw [hrt];rfl
   rw [u9 hw hF]
   conv=>whnf
   repeat' (first|refine zz ?_|refine qp rt ?_|refine qp rv ?_|refine b8 hw ?_|refine zd ?_ ?_<;>intro h<;>try omega|refine zy ?_|fail)<;>conv=>whnf
   all_goals first
    |omega
    |(exfalso;simp_all;done)
    |exact b9 rfl
  |true=>
   rw [hrt] at rt
   by_cases hk3:0<=w.kind∧w.kind<3
   ·have hT:t9 s.n w=true:=by unfold t9;rw [hrt,decide_eq_true hk3.1,decide_eq_true hk3.2];rfl
    conv=>whnf
    repeat' (first|refine zz ?_|refine qp rt ?_|refine qp rv ?_|refine b8 hw ?_|refine zd ?_ ?_<;>intro h<;>try omega|refine zy ?_|fail)<;>conv=>whnf
    all_goals first
     |omega
     |(exfalso;simp_all;done)
     |exact ⟨hlt,by rw [p7 hw,hI,hT];rfl,[],rfl,rfl,trivial,⟨rfl,rfl,rfl,rfl,trivial⟩⟩
   ·have hF:t9 s.n w=false:=by
     unfold t9
     rw [← Bool.not_eq_true]
     simp only [Bool.and_eq_true,decide_eq_true_eq]
     exact fun h=>hk3 ⟨h.1.2,h.2⟩
    rw [u9 hw hF]
    conv=>whnf
    repeat' (first|refine zz ?_|refine qp rt ?_|refine qp rv ?_|refine b8 hw ?_|refine zd ?_ ?_<;>intro h<;>try omega|refine zy ?_|fail)<;>conv=>whnf
    all_goals first
     |omega
     |(exfalso;simp_all;done)
     |exact b9 rfl
 ·rw [lg4 (by omega)] at hI
  rw [hI]
  conv=>whnf
  repeat' (first|refine zz ?_|refine zd ?_ ?_<;>intro h<;>try omega|refine zy ?_|fail)<;>conv=>whnf
  all_goals first
   |omega
   |exact b9 rfl
theorem b0B (rs:List Fr) (hl:rs.length<=1000000) (g:FuncId) (caps:List T) (q:Fr->Bool) (hg:∀r ∈ rs,a9 Tryz.prog g (frS r::caps.map fun x=>.c (.t x)) [] (f5 (q r)) []):
 a9 Tryz.prog 243 [.c (.t (B4 rs)),.c (.t (.fn (.func g) caps))] [] (a7 .i64 (B7 q rs 0)) []:=by
 have l1:(rs.map j5).length=rs.length:=by simp
 (refine ac Tryz.func243 ?_;(conv=>whnf);repeat (refine zy ?_;conv=>whnf))
 repeat' (first|refine zz ?_|refine zd ?_ ?_<;>intro h<;>try omega|refine zy ?_|fail)<;>conv=>whnf
 refine d6 c8 (fun k=>([S.c (C.t (B4 rs)),S.c (C.t (T.fn (.func g) caps)),J,J,J,J,J,a7 .i64 rs.length,a7 .i64 k,J,J,J,J,J,J,J,J,J,J],[])) rs.length (fun k=>B7 q (rs.drop k) k=B7 q rs 0) [] rfl
  ⟨rfl,rfl,trivial,⟨g9 rfl,g9 rfl,c6 (by simp),rfl,trivial⟩⟩ ?_
 intro k hk hI
 by_cases hlt:k<rs.length
 ·obtain ⟨r,hr⟩:∃r,rs[k]? =some r:=⟨_,lg0 hlt⟩
  have hd:rs.drop k=r::rs.drop (k+1):=by
   rw [List.drop_eq_getElem_cons hlt]
   rw [lg0 hlt] at hr
   injection hr with hr
   rw [hr]
  have hgr:=hg r (lg2 hr)
  have ha:(frS r::caps.map fun x=>S.c (C.t x)).all S.isT=true:=by simp [S.isT,C.isT,j5]
  rw [hd] at hI
  have hI:(if q r then (k:Int) else B7 q (rs.drop (k+1)) (k+1))=B7 q rs 0:=hI
  cases hq:q r with
  |true=>
   rw [hq] at hgr hI
   conv=>whnf
   repeat' (first|refine zz ?_|refine .inl ⟨_,_,x4 hgr ha rfl,?_⟩|refine b8 hr ?_|refine zd ?_ ?_<;>intro h<;>try omega|refine zy ?_|fail)<;>conv=>whnf
   all_goals first
    |omega
    |exact i6 hI
  |false=>
   rw [hq] at hgr hI
   conv=>whnf
   repeat' (first|refine zz ?_|refine .inl ⟨_,_,x4 hgr ha rfl,?_⟩|refine b8 hr ?_|refine zd ?_ ?_<;>intro h<;>try omega|refine zy ?_|fail)<;>conv=>whnf
   all_goals first
    |omega
    |exact ⟨hlt,by simpa using hI,[],rfl,rfl,trivial,⟨rfl,rfl,rfl,rfl,trivial⟩⟩
 ·have hke:k=rs.length:=by omega
  subst hke
  rw [List.drop_of_length_le (Nat.le_refl _)] at hI
  conv=>whnf
  repeat' (first|refine zz ?_|refine zd ?_ ?_<;>intro h<;>try omega|refine zy ?_|fail)<;>conv=>whnf
  all_goals first
   |omega
   |exact i6 hI
theorem ap9 (rs:List Fr) (hl:rs.length<=1000000) (g:FuncId) (caps:List T) (q:Fr->Bool) (hg:∀r ∈ rs,a9 Tryz.prog g (frS r::caps.map fun x=>.c (.t x)) [] (f5 (q r)) []):
 a9 Tryz.prog 177 [.c (.t (B4 rs)),.c (.t (.fn (.func g) caps))] [] (f5 (rs.any q)) []:=by
 have ix:=b0B rs hl g caps q hg
 (refine ac Tryz.func177 ?_;(conv=>whnf);repeat (refine zy ?_;conv=>whnf))
 repeat' (first|refine zz ?_|refine qp ix ?_|refine zd ?_ ?_<;>intro h<;>try omega|refine zy ?_|fail)<;>conv=>whnf
 all_goals (refine b9 ?_;rw [← a31 q rs 0];simp;omega)
theorem b3j (f:Fr) (lp:f.p.dl.length<=200000) (lq:f.q.dl.length<=200000):a9 Tryz.prog 178 (frS f::[].map fun x=>.c (.t x)) [] (f5 (!B5 f)) []:=by
 have r:=a8P f lp lq
 (refine ac Tryz.func178 ?_;(conv=>whnf);repeat ((first|refine b0x ?_|refine zy ?_);conv=>whnf))
 repeat' (first|refine zz ?_|refine qp r ?_|refine zd ?_ ?_<;>intro h<;>try omega|refine zy ?_|fail)<;>conv=>whnf
 all_goals (refine b9 ?_;simp [*])
theorem b5h (z:List Fr) (hl:z.length<=1000000) (hd:∀f ∈ z,f.p.dl.length<=200000∧f.q.dl.length<=200000):a9 Tryz.prog 109 [j8 z] [] (f5 (z.all B5)) []:=by
 have ct:=ap9 z hl 178 [] _ (fun f hf=>b3j f (hd f hf).1 (hd f hf).2)
 have e:(z.any fun f=>!B5 f)=!(z.all B5):=by rw [List.not_all_eq_any_not]
 rw [e] at ct
 cases hz:z.all B5<;>rw [hz] at ct<;>
 ·(refine ac Tryz.func109 ?_;(conv=>whnf);repeat ((first|refine b0x ?_|refine zy ?_);conv=>whnf))
  repeat' (first|refine zz ?_|refine qp ct ?_|refine zd ?_ ?_<;>intro h<;>try omega|refine zy ?_|fail)<;>conv=>whnf
  all_goals exact b9 rfl
theorem a6X {n:Int}:∀{l:List (Int × Rat)} {last:Int},f8 last n l=true->∀t ∈ l,last<t.1∧t.1<n
 |[],_,_,t,ht=>by cases ht
 |u::r,last,h,t,ht=>by
  unfold f8 at h
  simp only [Bool.and_eq_true,decide_eq_true_eq] at h
  rcases List.mem_cons.1 ht with rfl|ht
  ·exact ⟨h.1.1.1,h.1.1.2⟩
  ·have:=a6X h.2 t ht
   omega
def rF (n:Nat) (g:Nat->Rat):List Fr:=(List.range n).map fun j=>fz (g j)
def mF (m n:Nat) (A:Nat->Nat->Rat):List (List Fr):=(List.range m).map fun i=>rF n (A i)
theorem L9 (n:Nat) (g:Nat->Rat):(rF n g).length=n:=by simp [rF]
theorem b7 (m n:Nat) (A:Nat->Nat->Rat):(mF m n A).length=m:=by simp [mF]
theorem B9 {n:Nat} {g:Nat->Rat} {j:Nat} (h:j<n):(rF n g)[j]? =some (fz (g j)):=by simp [rF,h]
theorem N4 {m n:Nat} {A:Nat->Nat->Rat} {i:Nat} (h:i<m):(mF m n A)[i]? =some (rF n (A i)):=by simp [mF,h]
theorem L2 {n:Nat} {g:Nat->Rat} {s:Nat} {v:Rat} (h:s<n):(rF n g).set s (fz v)=rF n (fun j=>if j=s then v else g j):=by
 apply List.ext_getElem?
 intro j
 by_cases hj:j<n
 ·rw [B9 hj,List.getElem?_set,L9]
  by_cases hjm:s=j
  ·subst hjm;simp [h]
  ·rw [if_neg hjm,B9 hj,if_neg (by omega)]
 ·rw [List.getElem?_eq_none (by simp [L9];omega),List.getElem?_eq_none (by simp [L9];omega)]
theorem u4 {n:Nat} {g h:Nat->Rat} (e:∀j,j<n->g j=h j):rF n g=rF n h:=List.map_congr_left fun j hj=>by rw [e j (List.mem_range.1 hj)]
theorem aA1 {m n:Nat} {A B:Nat->Nat->Rat} (e:∀i,i<m->∀j,j<n->A i j=B i j):mF m n A=mF m n B:=List.map_congr_left fun i hi=>u4 (e i (List.mem_range.1 hi))
theorem b3f {m n:Nat} {A:Nat->Nat->Rat} {r:Nat} {g:Nat->Rat} (h:r<m):(mF m n A).set r (rF n g)=mF m n (fun i=>if i=r then g else A i):=by
 apply List.ext_getElem?
 intro j
 by_cases hj:j<m
 ·rw [N4 hj,List.getElem?_set,b7]
  by_cases hjm:r=j
  ·subst hjm;simp [h]
  ·rw [if_neg hjm,N4 hj,if_neg (by omega)]
 ·rw [List.getElem?_eq_none (by simp [b7];omega),List.getElem?_eq_none (by simp [b7];omega)]
abbrev flB (l:List Fr):Blk:={ mode:=.live,elem:=83,size:=4,rows:=toC (l.map j5),box:=false }
theorem F0 {row:List Fr} {i n:Nat} {y:Fr} (h:n=i):s8 (flB row) ((toC (row.map j5)).set n (frC y))=flB (row.set i y):=by
 subst h
 unfold s8
 simp [toC,List.map_set,j5]
def P5 (b m n:Nat) (V:Nat->Rat):List (List C):=(List.range m).map fun i=>frC (fz (V i))++[C.own (i+b) 0 n true]
def a0u (m:Nat) (O:Nat->Nat):List (List T):=(List.range m).map fun i=>[ti (O i)]
def Y2 (l:List (Nat × Bool)):List (List T):=l.map fun f=>[ti f.1,tb f.2]
theorem y6 (b m n:Nat) (V:Nat->Rat):(P5 b m n V).length=m:=by simp [P5]
theorem u7 (m:Nat) (O:Nat->Nat):(a0u m O).length=m:=by simp [a0u]
theorem a24 {b m n:Nat} {V:Nat->Rat} {i:Nat} (h:i<m):(P5 b m n V)[i]? =some (frC (fz (V i))++[C.own (i+b) 0 n true]):=by simp [P5,h]
theorem a63 {m:Nat} {O:Nat->Nat} {i:Nat} (h:i<m):(a0u m O)[i]? =some [ti (O i)]:=by simp [a0u,h]
theorem b0o {b m n:Nat} {V:Nat->Rat} {r:Nat} {v:Rat} (h:r<m):(P5 b m n V).set r (frC (fz v)++[C.own (r+b) 0 n true])=P5 b m n (fun i=>if i=r then v else V i):=by
 apply List.ext_getElem?
 intro j
 by_cases hj:j<m
 ·rw [a24 hj,List.getElem?_set,y6]
  by_cases hjm:r=j
  ·subst hjm;simp [h]
  ·rw [if_neg hjm,a24 hj,if_neg (by omega)]
 ·rw [List.getElem?_eq_none (by simp [y6];omega),List.getElem?_eq_none (by simp [y6];omega)]
theorem b3t {m:Nat} {O:Nat->Nat} {r v:Nat} (h:r<m):(a0u m O).set r [ti v]=a0u m (fun i=>if i=r then v else O i):=by
 apply List.ext_getElem?
 intro j
 by_cases hj:j<m
 ·rw [a63 hj,List.getElem?_set,u7]
  by_cases hjm:r=j
  ·subst hjm;simp [h]
  ·rw [if_neg hjm,a63 hj,if_neg (by omega)]
 ·rw [List.getElem?_eq_none (by simp [u7];omega),List.getElem?_eq_none (by simp [u7];omega)]
abbrev aT3 (m n k:Nat):Blk:={ mode:=.live,elem:=256,size:=6,rows:=[[C.t (ti n),.own 1 0 m true,.own 2 0 n true,.own 3 0 m true,.own 4 0 n true,.own 5 0 k true]],box:=true }
abbrev a0a (b m n:Nat) (V:Nat->Rat):Blk:={ mode:=.live,elem:=259,size:=5,rows:=P5 b m n V,box:=false }
abbrev V5 (m:Nat) (O:Nat->Nat):Blk:={ mode:=.live,elem:=3,size:=1,rows:=toC (a0u m O),box:=false }
abbrev a1h (l:List (Nat × Bool)):Blk:={ mode:=.live,elem:=284,size:=2,rows:=toC (Y2 l),box:=false }
abbrev X2 (m n:Nat) (fr:List (Nat × Bool)) (D:Fd):Hp:=
 aT3 m n fr.length::a0a 6 m n D.V::flB (rF n D.G)::V5 m D.O::V5 n D.F::a1h fr::(mF m n D.A).map flB
theorem a2a {m n:Nat} {fr:List (Nat × Bool)} {D:Fd}:(X2 m n fr D).length=m+6:=by simp [b7]
theorem a9b {b m n N:Nat} {V:Nat->Rat} (h:m+b<=N):okB N (a0a b m n V):=by
 intro r hr c hc
 obtain ⟨i,hi,rfl⟩:=List.mem_map.1 hr
 have:=List.mem_range.1 hi
 simp [frC] at hc
 rcases hc with rfl|rfl|rfl|rfl|rfl<;>first|trivial|(simp only;omega)
theorem aY4 {m n k N:Nat} (h:6<=N):okB N (aT3 m n k):=by
 intro r hr c hc
 simp at hr
 subst hr
 simp at hc
 rcases hc with rfl|rfl|rfl|rfl|rfl|rfl<;>first|trivial|(simp only;omega)
theorem a66 {m n:Nat} {fr:List (Nat × Bool)} {D:Fd}:∀k ∈ X2 m n fr D,okB (m+6) k:=by
 intro k hk
 simp only [List.mem_cons] at hk
 rcases hk with rfl|rfl|rfl|rfl|rfl|rfl|hk
 ·exact aY4 (by omega)
 ·exact a9b (Nat.le_refl _)
 ·exact D5 rfl
 ·exact D5 rfl
 ·exact D5 rfl
 ·exact D5 rfl
 ·obtain ⟨l,_,rfl⟩:=List.mem_map.1 hk
  exact D5 rfl
theorem aX9 (x:Rat):(fz x).p.sg=0↔x=0:=by
 show x.num.sign=0↔_
 rw [Int.sign_eq_zero_iff_zero,Rat.num_eq_zero]
theorem rl0:rl 0<=1:=by
 have h0:=o5 (x:=0) (by decide) (by decide)
 have h1:=o5 (x:=1) (by decide) (by decide)
 show max (bl 0) (bl 1)<=1
 omega
theorem rl1:rl 1<=1:=by
 have h1:=o5 (x:=1) (by decide) (by decide)
 show max (bl 1) (bl 1)<=1
 omega
theorem b6M (x y:Rat) (hy:y≠0) (lx:rl x<=60000) (ly:rl y<=60000):a9 Tryz.prog 301 [frS (fz x),frS (fz y)] [] (.tup [frS (fz (x / y)),a7 .i64 0]) []:=by
 have r1:=G2 x (by omega)
 have r2:=G2 y (by omega)
 have x1:=E7 x
 have x2:=F7 x
 have y1:=E7 y
 have y2:=F7 y
 have hn:y.num≠0:=fun h=>hy (Rat.num_eq_zero.1 h)
 have hs:y.num.sign≠0:=fun h=>hn (Int.sign_eq_zero_iff_zero.1 h)
 have hsg:=aX9 y
 have l1:=C7 x.num y.den
 have l3:=C7 x.den y.num
 have t1:=a0B x.num y.den (by omega) (by omega)
 have t3:=a0B x.den y.num (by omega) (by omega)
 have n:=aq4 (x.num*y.den) (x.den*y.num) (Int.mul_ne_zero (aT7 x) hn) (by omega) (by omega)
 rw [← b57] at n
 (refine ac Tryz.func301 ?_;(conv=>whnf);repeat (refine zy ?_;conv=>whnf))
 repeat' (first|refine zz ?_|refine qp r1 ?_|refine qp r2 ?_|refine qp t1 ?_|refine qp t3 ?_|refine qp n ?_|refine zd ?_ ?_<;>intro h<;>try omega|refine zy ?_|fail)<;>conv=>whnf
 all_goals first
  |(exfalso;simp_all;done)
  |exact T5 rfl
theorem a2O (x:Rat) (lx:rl x<=60000):a9 Tryz.prog 256 [frS (fz x)] [] (frS (fz (-x))) []:=by
 have r1:=G2 x (by omega)
 have x1:=E7 x
 have x2:=F7 x
 have n:=a7c x.num (by omega)
 have s:=a8F x.den (by omega)
 have e:fz (-x)=⟨bz (-x.num),bz x.den⟩:=rfl
 rw [e]
 (refine ac Tryz.func256 ?_;(conv=>whnf);repeat (refine zy ?_;conv=>whnf))
 repeat' (first|refine zz ?_|refine qp r1 ?_|refine qp n ?_|refine qp s ?_|refine zd ?_ ?_<;>intro h<;>try omega|refine zy ?_|fail)<;>conv=>whnf
 all_goals first
  |(exfalso;simp_all;done)
  |exact k5 ⟨rfl,rfl,rfl,rfl,trivial⟩
theorem a9N (x:Rat):a9 Tryz.prog 294 [frS (fz x)] [] (f5 (decide (x=0))) []:=by
 have h:=aX9 x
 (refine ac Tryz.func294 ?_;(conv=>whnf);repeat (refine zy ?_;conv=>whnf))
 repeat' (first|refine zz ?_|refine zd ?_ ?_<;>intro h<;>try omega|refine zy ?_|fail)<;>conv=>whnf
 all_goals (refine b9 ?_;simp_all)
theorem aJ3 (a b c:Rat) (la:rl a<=60000) (lb:rl b<=30000) (lc:rl c<=30000):a9 Tryz.prog 295 [frS (fz a),frS (fz b),frS (fz c)] [] (frS (fz (a - b*c))) []:=by
 have z1:=a9N b
 have z2:=a9N c
 have m:=aa3 b c (by omega) (by omega)
 have lm:=a2Y b c
 have s:=aO4 a (b*c) la (by omega)
 by_cases hb:b=0
 ·have e:a - b*c=a:=by rw [hb];grind
  rw [e]
  (refine ac Tryz.func295 ?_;(conv=>whnf);repeat (refine zy ?_;conv=>whnf))
  repeat' (first|refine zz ?_|refine qp z1 ?_|refine qp z2 ?_|refine qp m ?_|refine qp s ?_|refine zd ?_ ?_<;>intro h<;>try omega|refine zy ?_|fail)<;>conv=>whnf
  all_goals first
   |(exfalso;simp_all;done)
   |exact k5 ⟨rfl,rfl,rfl,rfl,trivial⟩
 ·by_cases hc:c=0
  ·have e:a - b*c=a:=by rw [hc];grind
   rw [e]
   (refine ac Tryz.func295 ?_;(conv=>whnf);repeat (refine zy ?_;conv=>whnf))
   repeat' (first|refine zz ?_|refine qp z1 ?_|refine qp z2 ?_|refine qp m ?_|refine qp s ?_|refine zd ?_ ?_<;>intro h<;>try omega|refine zy ?_|fail)<;>conv=>whnf
   all_goals first
    |(exfalso;simp_all;done)
    |exact k5 ⟨rfl,rfl,rfl,rfl,trivial⟩
  ·(refine ac Tryz.func295 ?_;(conv=>whnf);repeat (refine zy ?_;conv=>whnf))
   repeat' (first|refine zz ?_|refine qp z1 ?_|refine qp z2 ?_|refine qp m ?_|refine qp s ?_|refine zd ?_ ?_<;>intro h<;>try omega|refine zy ?_|fail)<;>conv=>whnf
   all_goals first
    |(exfalso;simp_all;done)
    |exact k5 ⟨rfl,rfl,rfl,rfl,trivial⟩
theorem aT5 (a b:Rat) (hb:b≠0) (la:rl a<=60000) (lb:rl b<=60000):a9 Tryz.prog 293 [frS (fz a),frS (fz b)] [] (frS (fz (a / b))) []:=by
 have d:=b6M a b hb la lb
 (refine ac Tryz.func293 ?_;(conv=>whnf);repeat (refine zy ?_;conv=>whnf))
 repeat' (first|refine zz ?_|refine qp d ?_|refine zd ?_ ?_<;>intro h<;>try omega|refine zy ?_|fail)<;>conv=>whnf
 all_goals exact k5 ⟨rfl,rfl,rfl,rfl,trivial⟩
def tkF (a row:Nat->Rat) (s k:Nat):Nat->Rat:=fun j=>if j<k∧j≠s then a j - a s*row j else a j
def tkA (a row:Nat->Rat) (s:Nat):Nat->Rat:=fun j=>if j=s then 0 - a s*row s else a j - a s*row j
def pZ (k n:Nat):List Fr:=(List.range n).map fun j=>if j<k then fz 0 else M5
theorem a6H (k n:Nat):(pZ k n).length=n:=by simp [pZ]
theorem a7e {k n j:Nat} (h:j<n):(pZ k n)[j]? =some (if j<k then fz 0 else M5):=by simp [pZ,h]
theorem b4l {k n:Nat} (h:k<n):(pZ k n).set k (fz 0)=pZ (k+1) n:=by
 apply List.ext_getElem?
 intro j
 by_cases hj:j<n
 ·rw [a7e hj,List.getElem?_set,a6H]
  by_cases hjk:k=j
  ·subst hjk;simp [h]
  ·rw [if_neg hjk,a7e hj]
   have:(j<k+1)↔(j<k):=by omega
   simp only [this]
 ·rw [List.getElem?_eq_none (by simp [a6H];omega),List.getElem?_eq_none (by simp [a6H];omega)]
theorem b2m (n:Nat):pZ n n=rF n (fun _=>0):=List.map_congr_left fun j hj=>by rw [if_pos (List.mem_range.1 hj)]
theorem b5B (n:Nat) (hn:n<=1000):a9 Tryz.prog 254 [a7 .i64 n] [] (.c (.own 0 0 n true)) [flB (rF n fun _=>0)]:=by
 have i0:=G7 0 (by decide) (by decide)
 have hnn:(n:Int).toNat=n:=by omega
 (refine ac Tryz.func254 ?_;(conv=>whnf);repeat (refine zy ?_;conv=>whnf))
 repeat' (first|refine zz ?_|refine a2q (by omega) (by omega) (by omega) (by decide) ?_|refine zd ?_ ?_<;>intro h<;>try omega|refine zy ?_|fail)<;>conv=>whnf
 refine d6 c8 (fun k=>([a7 .i64 n,J,J,S.c (C.own 0 0 n true),J,J,J,J,a7 .i64 n,a7 .i64 k,J,J,J,J,J,J,J,J],[flB (pZ k n)])) n (fun _=>True) [some 0] trivial
  ⟨rfl,rfl,⟨⟨rfl,rfl,rfl,.inr (a6z ?_ ?_)⟩,trivial⟩,⟨g9 rfl,⟨rfl,rfl,by omega,fun h=>h⟩,c6 (by omega),c6 rfl,trivial⟩⟩ ?_
 ·simp [C4,toC,a6H]
 ·intro i x y hx hy
  simp only [C4,List.getElem?_replicate] at hx
  split at hx
  ·rename_i hi
   injection hx with hx
   subst hx
   have hy:(toC ((pZ 0 n).map j5))[i]? =some y:=hy
   rw [toC,List.getElem?_map,List.getElem?_map,a7e (by omega),if_neg (by omega)] at hy
   injection hy with hy
   subst hy
   exact ⟨rfl,rfl,rfl,rfl,trivial⟩
  ·cases hx
 intro k hk _
 by_cases hlt:k<n
 ·obtain ⟨pf,hpf⟩:∃pf,(pZ k n)[k]? =some pf:=⟨_,a7e hlt⟩
  have gp:(pZ k n)[0+(k:Int).toNat]? =some pf:=by rw [Nat.zero_add,show (k:Int).toNat=k by omega];exact hpf
  have eM:0+(k:Int).toNat=k:=by omega
  conv=>whnf
  repeat' (first|refine zz ?_|refine qp i0 ?_|refine j6 gp ?_|refine zd ?_ ?_<;>intro h<;>try omega|refine zy ?_|fail)<;>conv=>whnf
  all_goals first
   |omega
   |(refine ⟨hlt,trivial,[some 0],rfl,rfl,⟨a8 (rows:=(pZ (k+1) n).map j5) rfl rfl rfl ?_ rfl,trivial⟩,⟨rfl,⟨rfl,rfl,rfl,fun h=>h⟩,rfl,c6 (by omega),trivial⟩⟩
     have e:=F0 (row:=pZ k n) (y:=fz 0) eM
     rw [b4l hlt] at e
     exact congrArg Blk.rows e)
 ·have hke:k=n:=by omega
  subst hke
  conv=>whnf
  repeat' (first|refine zz ?_|refine zd ?_ ?_<;>intro h<;>try omega|refine zy ?_|fail)<;>conv=>whnf
  all_goals first
   |omega
   |exact ⟨[some 0],rfl,rfl,⟨a8 (rows:=(rF k fun _=>0).map j5) rfl rfl rfl (by rw [← b2m]) rfl,trivial⟩,⟨rfl,rfl,rfl,fun h=>h⟩⟩
theorem b3w (a row:Nat->Rat) (s:Nat):tkF a row s 0=a:=by funext j;unfold tkF;rw [if_neg (by omega)]
theorem b7Q (a row:Nat->Rat) (s k:Nat):tkF a row s k k=a k:=by unfold tkF;rw [if_neg (by omega)]
theorem b8s (a row:Nat->Rat) (s k:Nat):tkF a row s k s=a s:=by unfold tkF;rw [if_neg (by omega)]
theorem b4f {a row:Nat->Rat} {s k:Nat} (h:k≠s):(fun j=>if j=k then a k - a s*row k else tkF a row s k j)=tkF a row s (k+1):=by
 funext j
 by_cases hj:j=k
 ·subst hj;rw [if_pos rfl];unfold tkF;rw [if_pos ⟨by omega,h⟩]
 ·rw [if_neg hj];unfold tkF
  have:(j<k∧j≠s)↔(j<k+1∧j≠s):=by omega
  simp only [this]
theorem b4d {a row:Nat->Rat} {s:Nat}:tkF a row s s=tkF a row s (s+1):=by
 funext j;unfold tkF
 have:(j<s∧j≠s)↔(j<s+1∧j≠s):=by omega
 simp only [this]
theorem b5K {a row:Nat->Rat} {s n:Nat}:rF n (fun j=>if j=s then 0 - a s*row s else tkF a row s n j)=rF n (tkA a row s):=u4 fun j hj=>by
 unfold tkA tkF
 by_cases h:j=s
 ·rw [if_pos h,if_pos h]
 ·rw [if_neg h,if_neg h,if_pos ⟨hj,h⟩]
abbrev frX (x:Rat):Blk:={ mode:=.live,elem:=83,size:=4,rows:=[frC (fz x)],box:=true }
theorem aT6 {ρ:List (Option Nat)} {H:Hp} (x:Rat):a3z ρ H (frX x) (frX x):=⟨rfl,rfl,rfl,.inl ⟨rfl,c7 [j5 (fz x)]⟩⟩
theorem b7d (n s:Nat) (a row:Nat->Rat) (hn:n<=1000) (hs:s<n) (ha:∀j,j<n->rl (a j)<=30000) (hr:∀j,j<n->rl (row j)<=30000):
 a9 Tryz.prog 296 [.c (.own 0 0 n true),.c (.own 1 0 n true),a7 .i64 s] [flB (rF n a),flB (rF n row)] (.tup []) [flB (rF n (tkA a row s)),flB (rF n row)]:=by
 have i0:=G7 0 (by decide) (by decide)
 have ls:=ha s hs
 have eS:0+(s:Int).toNat=s:=by omega
 have gs:(rF n a)[0+(s:Int).toNat]? =some (fz (a s)):=by rw [eS,B9 hs]
 (refine ac Tryz.func296 ?_;(conv=>whnf);repeat (refine zy ?_;conv=>whnf))
 repeat' (first|refine zz ?_|refine j6 gs ?_|refine zd ?_ ?_<;>intro h<;>try omega|refine zy ?_|fail)<;>conv=>whnf
 refine d6 c8 (fun k=>([S.c (C.own 0 0 n true),S.c (C.own 1 0 n true),a7 .i64 s,J,J,J,S.c (C.ptr 2 0 0),J,J,J,J,J,J,a7 .i64 n,a7 .i64 k,J,J,J,J,J,J,J,J,J,J,J,J,J,J,J,J,J,J,J,J,J,J,J,J,J,J,J,J,J],[flB (rF n (tkF a row s k)),flB (rF n row),frX (a s)])) n (fun _=>True) [some 0,some 1,some 2] trivial
  ⟨rfl,rfl,⟨a8 (rows:=(rF n a).map j5) rfl rfl rfl rfl (by rw [b3w]),a8 rfl rfl rfl rfl rfl,aT6 _,trivial⟩,⟨⟨rfl,rfl,rfl,fun h=>h⟩,⟨rfl,rfl,rfl,fun h=>h⟩,rfl,⟨rfl,rfl,rfl⟩,c6 rfl,c6 rfl,trivial⟩⟩ ?_
 intro k hk _
 by_cases hlt:k<n
 ·have eM:0+(k:Int).toNat=k:=by omega
  have lk:=ha k hlt
  have lr:=hr k hlt
  have g1:(rF n (tkF a row s k))[0+(k:Int).toNat]? =some (fz (a k)):=by rw [eM,B9 hlt,b7Q]
  have g2:(rF n row)[0+(k:Int).toNat]? =some (fz (row k)):=by rw [eM,B9 hlt]
  have le:=aJ3 (a k) (a s) (row k) (by omega) (by omega) (by omega)
  by_cases hks:k=s
  ·subst hks
   conv=>whnf
   repeat' (first|refine zz ?_|refine qp le ?_|refine j6 g1 ?_|refine j6 g2 ?_|refine zd ?_ ?_<;>intro h<;>try omega|refine zy ?_|fail)<;>conv=>whnf
   all_goals first
    |omega
    |exact ⟨hlt,trivial,[some 0,some 1,some 2],rfl,rfl,⟨a8 (rows:=(rF n (tkF a row k k)).map j5) rfl rfl rfl rfl (by rw [b4d]),a8 rfl rfl rfl rfl rfl,aT6 _,trivial⟩,⟨⟨rfl,rfl,rfl,fun h=>h⟩,⟨rfl,rfl,rfl,fun h=>h⟩,rfl,⟨rfl,rfl,rfl⟩,c6 rfl,c6 rfl,trivial⟩⟩
  ·conv=>whnf
   repeat' (first|refine zz ?_|refine qp le ?_|refine j6 g1 ?_|refine j6 g2 ?_|refine zd ?_ ?_<;>intro h<;>try omega|refine zy ?_|fail)<;>conv=>whnf
   all_goals first
    |omega
    |(refine ⟨hlt,trivial,[some 0,some 1,some 2],rfl,rfl,⟨a8 (rows:=(rF n (tkF a row s (k+1))).map j5) rfl rfl rfl ?_ rfl,a8 rfl rfl rfl rfl rfl,aT6 _,trivial⟩,⟨⟨rfl,rfl,rfl,fun h=>h⟩,⟨rfl,rfl,rfl,fun h=>h⟩,rfl,⟨rfl,rfl,rfl⟩,c6 rfl,c6 rfl,trivial⟩⟩
      have e:=F0 (row:=rF n (tkF a row s k)) (y:=fz (a k - a s*row k)) eM
      rw [L2 hlt,b4f hks] at e
      exact congrArg Blk.rows e)
 ·have hke:k=n:=by omega
  subst hke
  have g2:(rF k row)[0+(s:Int).toNat]? =some (fz (row s)):=by rw [eS,B9 hs]
  have lr:=hr s hs
  have le:=aJ3 0 (a s) (row s) (by have:=rl0;omega) (by omega) (by omega)
  have le:a9 Tryz.prog 295 [frS (fz ((0:Int):Rat)),frS (fz (a s)),frS (fz (row s))] [] (frS (fz (0 - a s*row s))) []:=le
  conv=>whnf
  have g1:(rF k (tkF a row s k))[0+(s:Int).toNat]? =some (fz (a s)):=by rw [eS,B9 hs,b8s]
  repeat' (first|refine zz ?_|refine qp i0 ?_|refine qp le ?_|refine j6 g2 ?_|refine j6 g1 ?_|refine zd ?_ ?_<;>intro h<;>try omega|refine zy ?_|fail)<;>conv=>whnf
  all_goals first
   |omega
   |(refine ⟨[some 0,some 1],rfl,rfl,⟨a8 (rows:=(rF k (tkA a row s)).map j5) rfl rfl rfl ?_ rfl,a8 rfl rfl rfl rfl rfl,trivial⟩,trivial⟩
     have e:=F0 (row:=rF k (tkF a row s k)) (y:=fz (0 - a s*row s)) eS
     rw [L2 hs,b5K] at e
     exact congrArg Blk.rows e)
def leI:Option Nat->Int
 |none=>-1
 |some a=>a
theorem a4l (f:Nat->Nat) (p:Nat->Bool) (k:Nat):R5 f p (k+1)=match R5 f p k with
 |none=>if p k then some k else none
 |some a=>if p k && decide (f k<f a) then some k else some a:=rfl
theorem J5 {m:Nat} {f:Nat->Nat} {n:Int} {i:Nat} {K:List T->Prop} (e:n=i) (h:i<m) (k:K [ti (f i)]):∃row,0<=n∧(a0u m f)[n.toNat]? =some row∧K row:=by
 subst e;exact ⟨_,by omega,by rw [show (i:Int).toNat=i by omega,a63 h],k⟩
abbrev a7q (m:Nat) (f:Nat->Nat):S:=.c (.t (.sl 1 .any (a0u m f)))
set_option maxHeartbeats 1000000 in
theorem a4e (m:Nat) (hm:m<=100000) (f:Nat->Nat) (p:Nat->Bool) (g:FuncId) (caps:List T) (hg:∀i:Nat,i<m->a9 Tryz.prog g (a7 .i64 i::caps.map fun x=>.c (.t x)) [] (f5 (p i)) []):
 a9 Tryz.prog 257 [a7q m f,.c (.t (.fn (.func g) caps))] [] (a7 .i64 (leI (R5 f p m))) []:=by
 have m1:(a0u m f).length=m:=u7 m f
 (refine ac Tryz.func257 ?_;(conv=>whnf);repeat (refine zy ?_;conv=>whnf))
 repeat' (first|refine zz ?_|refine zd ?_ ?_<;>intro h<;>try omega|refine zy ?_|fail)<;>conv=>whnf
 refine d6 c8 (fun k=>([a7q m f,S.c (C.t (T.fn (.func g) caps)),J,J,J,a7 .i64 (leI (R5 f p k)),J,J,a7q m f,a7 .i64 m,a7 .i64 k,J,J,J,J,J,J,J,J,J,J,J,J,J,J,J,J,J,J,J,J,J,J],[])) m (fun _=>True) [] trivial
  ⟨rfl,rfl,trivial,⟨g9 rfl,g9 rfl,c6 rfl,g9 rfl,c6 (by omega),c6 rfl,trivial⟩⟩ ?_
 intro k hk _
 by_cases hlt:k<m
 ·have hgr:=hg k hlt
  have ha:(a7 .i64 (k:Int)::caps.map fun x=>S.c (C.t x)).all S.isT=true:=by simp [S.isT,C.isT,a7]
  cases hp:p k with
  |false=>
   rw [hp] at hgr
   have e1:leI (R5 f p k)=leI (R5 f p (k+1)):=by
    rw [a4l,hp];cases R5 f p k<;>rfl
   conv=>whnf
   repeat' (first|refine zz ?_|refine .inl ⟨_,_,x4 hgr ha rfl,?_⟩|refine J5 rfl hlt ?_|refine zd ?_ ?_<;>intro h<;>try omega|refine zy ?_|fail)<;>conv=>whnf
   all_goals first
    |omega
    |exact ⟨hlt,trivial,[],rfl,rfl,trivial,⟨rfl,rfl,c6 e1,rfl,rfl,c6 rfl,trivial⟩⟩
  |true=>
   rw [hp] at hgr
   cases hl:R5 f p k with
   |none=>
    have hle:leI none=-1:=rfl
    have e1:(k:Int)=leI (R5 f p (k+1)):=by rw [a4l,hl,hp];rfl
    conv=>whnf
    repeat' (first|refine zz ?_|refine .inl ⟨_,_,x4 hgr ha rfl,?_⟩|refine J5 rfl hlt ?_|refine zd ?_ ?_<;>intro h<;>try omega|refine zy ?_|fail)<;>conv=>whnf
    all_goals first
     |omega
     |exact ⟨hlt,trivial,[],rfl,rfl,trivial,⟨rfl,rfl,c6 e1,rfl,rfl,c6 rfl,trivial⟩⟩
   |some b=>
    have hb:=(E5 hl).1
    have hle:leI (some b)=b:=rfl
    by_cases hc:f k<f b
    ·have e1:(k:Int)=leI (R5 f p (k+1)):=by rw [a4l,hl,hp];simp [hc,leI]
     conv=>whnf
     repeat' (first|refine zz ?_|refine .inl ⟨_,_,x4 hgr ha rfl,?_⟩|refine J5 rfl hlt ?_|refine J5 (i:=b) hle (by omega) ?_|refine zd ?_ ?_<;>intro h<;>try omega|refine zy ?_|fail)<;>conv=>whnf
     all_goals first
      |omega
      |exact ⟨hlt,trivial,[],rfl,rfl,trivial,⟨rfl,rfl,c6 e1,rfl,rfl,c6 rfl,trivial⟩⟩
    ·have e1:leI (some b)=leI (R5 f p (k+1)):=by rw [a4l,hl,hp];simp [hc,leI]
     conv=>whnf
     repeat' (first|refine zz ?_|refine .inl ⟨_,_,x4 hgr ha rfl,?_⟩|refine J5 rfl hlt ?_|refine J5 (i:=b) hle (by omega) ?_|refine zd ?_ ?_<;>intro h<;>try omega|refine zy ?_|fail)<;>conv=>whnf
     all_goals first
      |omega
      |exact ⟨hlt,trivial,[],rfl,rfl,trivial,⟨rfl,rfl,c6 e1,rfl,rfl,c6 rfl,trivial⟩⟩
 ·have hke:k=m:=by omega
  subst hke
  conv=>whnf
  repeat' (first|refine zz ?_|refine zd ?_ ?_<;>intro h<;>try omega|refine zy ?_|fail)<;>conv=>whnf
  all_goals first
   |omega
   |exact i6 rfl
def a7O (m n:Nat) (D:Fd):List (List T):=(List.range m).map fun i=>j5 (fz (D.V i))++[T.sl 4 .any ((rF n (D.A i)).map j5)]
def b69 (m n:Nat) (fr:List (Nat × Bool)) (D:Fd):List T:=[ti n,.sl 5 .any (a7O m n D),.sl 4 .any ((rF n D.G).map j5),.sl 1 .any (a0u m D.O),.sl 1 .any (a0u n D.F),.sl 2 .any (Y2 fr)]
theorem a6U {m n:Nat} {D:Fd} {i:Nat} (h:i<m):(a7O m n D)[i]? =some (j5 (fz (D.V i))++[T.sl 4 .any ((rF n (D.A i)).map j5)]):=by simp [a7O,h]
theorem a4d (m n:Nat) (D:Fd):(a7O m n D).length=m:=by simp [a7O]
theorem a25 {m n:Nat} {D:Fd} {x:Int} {i:Nat} {K:List T->Prop} (e:x=i) (h:i<m) (k:K (j5 (fz (D.V i))++[T.sl 4 .any ((rF n (D.A i)).map j5)])):∃row,0<=x∧(a7O m n D)[x.toNat]? =some row∧K row:=by
 subst e;exact ⟨_,by omega,by rw [show (i:Int).toNat=i by omega,a6U h],k⟩
theorem a49 {n:Nat} {g:Nat->Rat} {x:Int} {j:Nat} {K:List T->Prop} (e:x=j) (h:j<n) (k:K (j5 (fz (g j)))):∃row,0<=x∧((rF n g).map j5)[x.toNat]? =some row∧K row:=by
 subst e;exact ⟨_,by omega,by rw [show (j:Int).toNat=j by omega,List.getElem?_map,B9 h];rfl,k⟩
theorem b2j (x:Rat):(fz x).p.sg<0↔x<0:=by
 show x.num.sign<0↔_
 rw [a5M];unfold sgR;split<;>(try split)<;>simp_all
theorem b2X (x:Rat):(fz x).p.sg > 0↔0<x:=by
 show x.num.sign > 0↔_
 rw [a5M];unfold sgR
 split
 ·constructor
  ·intro h;omega
  ·intro h;grind
 ·split<;>simp_all
abbrev a5f (m n:Nat) (fr:List (Nat × Bool)) (D:Fd):T:=.ptr [.ptr (b69 m n fr D)]
theorem b19 (m n:Nat) (fr:List (Nat × Bool)) (D:Fd) (i:Nat) (hi:i<m):
 a9 Tryz.prog 258 (a7 .i64 i::[a5f m n fr D].map fun x=>.c (.t x)) [] (f5 (decide (D.V i<0))) []:=by
 have h:=b2j (D.V i)
 (refine ac Tryz.func258 ?_;(conv=>whnf);repeat (refine zy ?_;conv=>whnf))
 repeat' (first|refine zz ?_|refine a25 rfl hi ?_|refine zd ?_ ?_<;>intro h<;>try omega|refine zy ?_|fail)<;>conv=>whnf
 all_goals (refine b9 ?_;simp_all)
theorem b1h (m n:Nat) (fr:List (Nat × Bool)) (D:Fd) (j:Nat) (hj:j<n):
 a9 Tryz.prog 259 (a7 .i64 j::[a5f m n fr D].map fun x=>.c (.t x)) [] (f5 (decide (0<D.G j))) []:=by
 have h:=b2X (D.G j)
 (refine ac Tryz.func259 ?_;(conv=>whnf);repeat (refine zy ?_;conv=>whnf))
 repeat' (first|refine zz ?_|refine a49 rfl hj ?_|refine zd ?_ ?_<;>intro h<;>try omega|refine zy ?_|fail)<;>conv=>whnf
 all_goals (refine b9 ?_;simp_all)
theorem aj5 (m n:Nat) (fr:List (Nat × Bool)) (D:Fd) (r j:Nat) (hr:r<m) (hj:j<n):
 a9 Tryz.prog 260 (a7 .i64 j::[a5f m n fr D,T.ptr [ti r]].map fun x=>.c (.t x)) [] (f5 (decide (D.A r j<0))) []:=by
 have h:=b2j (D.A r j)
 (refine ac Tryz.func260 ?_;(conv=>whnf);repeat (refine zy ?_;conv=>whnf))
 repeat' (first|refine zz ?_|refine a25 rfl hr ?_|refine a49 rfl hj ?_|refine zd ?_ ?_<;>intro h<;>try omega|refine zy ?_|fail)<;>conv=>whnf
 all_goals (refine b9 ?_;simp_all)
theorem al2 (m n:Nat) (fr:List (Nat × Bool)) (D:Fd) (i s:Nat) (hi:i<m) (hs:s<n):
 a9 Tryz.prog 261 (a7 .i64 i::[a5f m n fr D,T.ptr [ti s]].map fun x=>.c (.t x)) [] (f5 (decide (0<D.A i s))) []:=by
 have h:=b2X (D.A i s)
 (refine ac Tryz.func261 ?_;(conv=>whnf);repeat (refine zy ?_;conv=>whnf))
 repeat' (first|refine zz ?_|refine a25 rfl hi ?_|refine a49 rfl hs ?_|refine zd ?_ ?_<;>intro h<;>try omega|refine zy ?_|fail)<;>conv=>whnf
 all_goals (refine b9 ?_;simp_all)
end Go.Proofs.YtdbogogfeffjlaaGreat
