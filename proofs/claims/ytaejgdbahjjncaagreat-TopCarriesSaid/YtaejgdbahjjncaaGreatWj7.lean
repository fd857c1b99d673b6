/- Part 7. -/
import Derived.Test.YtaejgdbahjjncaaGreatWj6
namespace Go.Proofs.YtaejgdbahjjncaaGreat
set_option linter.unusedVariables false
set_option linter.unusedSimpArgs false
set_option maxRecDepth 100000
set_option maxHeartbeats 8000000
open Go.RowKit
open St1 St2 St3 St4 St5 St6 St7 St8 StA StB
theorem a0Z (i n:Int):a8 Tryz.prog 50 [a7 .i64 i,a7 .i64 n] [] (d9 (idx i n)) []:=by
 (refine ac Tryz.func50 ?_;(conv=>whnf);repeat (refine zy ?_;conv=>whnf))
 repeat' (first|refine zx ?_|refine zd ?_ ?_<;>intro h<;>try omega|fail)<;>conv=>whnf
 all_goals (refine c9 ?_;simp only [idx];simp;omega)
theorem a4G (n lo hi:Int):a8 Tryz.prog 177 [a7 .i64 n,a7 .i64 lo,a7 .i64 hi] [] (d9 (btw n lo hi)) []:=by
 (refine ac Tryz.func177 ?_;(conv=>whnf);repeat (refine zy ?_;conv=>whnf))
 repeat' (first|refine zx ?_|refine zd ?_ ?_<;>intro h<;>try omega|fail)<;>conv=>whnf
 all_goals (refine c9 ?_;simp only [btw];simp;omega)
def b0P (p:Int × Int):List T:=[ti p.1,ti p.2]
def an2 (e:Ev):List (Int × Int):=[(e.mats,6),(e.hhs,100),(e.scs,30),(e.places.length,100),(e.moves.length,200),(e.certs.length,100),(e.recalls.length,30),(e.purities.length,200)]
theorem am5 (e:Ev):ai0 e=(an2 e).any fun p=>decide (p.2<p.1):=by
 rw [aw8]
 simp [ai0,an2]
 omega
set_option maxRecDepth 100000 in
theorem b8M (e:Ev) (hs:e.Sized):a8 Tryz.prog 117 [evS e] [] (d9 (ai0 e)) []:=by
 (refine ac Tryz.func117 ?_;(conv=>whnf);repeat (refine zy ?_;conv=>whnf))
 have hl:(an2 e).length=8:=rfl
 refine g8 b9 (fun k=>(Jn 34++[S.c (C.t (T.sl 2 .full ((an2 e).map b0P))),a7 .i64 8,a7 .i64 k]++Jn 9,[])) 8 (fun k=>((an2 e).take k).any (fun p=>decide (p.2<p.1))=false) [] rfl
  ⟨rfl,rfl,trivial,⟨g9 (by simp [an2,b0P]),rfl,rfl,trivial⟩⟩ ?_
 intro k hk hI
 conv=>whnf
 repeat' (first|refine zx ?_|refine zd ?_ ?_<;>intro h<;>try omega|fail)<;>conv=>whnf
 ·have hlt:k<8:=by omega
  refine f9 (lbf (hl ▸ hlt)) ?_
  conv=>whnf
  repeat' (first|refine zx ?_|refine zd ?_ ?_<;>intro h<;>try omega|fail)<;>conv=>whnf
  ·refine c9 ?_
   rw [am5,ab8 (lbf (hl ▸ hlt))]
   simpa using ‹_ > _›
  ·refine ⟨hlt,?_,[],rfl,rfl,trivial,⟨rfl,rfl,rfl,trivial⟩⟩
   rw [a5b (lbf (hl ▸ hlt)),hI]
   have h:=‹¬ _ > _›
   simp;omega
 ·refine c9 ?_
  rw [am5,←hI,lbn (by omega)]
theorem b2O (e:Ev) (hs:e.Sized):a8 Tryz.prog 118 [evS e] [] (d9 (e.places.all (a1L e))) []:=by
 have l1:=hs.s1
 have l2:(e.places.map C2.row).length=e.places.length:=by simp
 (refine ac Tryz.func118 ?_;(conv=>whnf);repeat (refine zy ?_;conv=>whnf))
 refine g8 b9 (fun k=>([J,S.c (C.ptr 0 0 0),J,J,J,J,S.c (C.t (a1W e.places)),a7 .i64 e.places.length,a7 .i64 k]++Jn 36,[evB e])) e.places.length (fun k=>(e.places.take k).all (a1L e)=true) [some 0] rfl
  ⟨rfl,rfl,⟨⟨rfl,rfl,rfl,.inl ⟨rfl,L5 e⟩⟩,trivial⟩,⟨⟨rfl,rfl,rfl⟩,g9 rfl,c7 (by simp),c7 rfl,trivial⟩⟩ ?_
 intro k hk hI
 conv=>whnf
 repeat' (first|refine zx ?_|refine zd ?_ ?_<;>intro h<;>try omega|fail)<;>conv=>whnf
 ·have hlt:k<e.places.length:=by omega
  obtain ⟨x,hx⟩:∃x,e.places[k]? =some x:=⟨_,lbf hlt⟩
  refine f9 hx ?_
  conv=>whnf
  repeat' (first|refine zx ?_|refine qp (a0Z _ _) ?_|refine zd ?_ ?_<;>intro h<;>try omega|fail)<;>conv=>whnf
  all_goals first
   |(refine ⟨hlt,?_,[some 0],rfl,rfl,⟨⟨rfl,rfl,rfl,.inl ⟨rfl,L5 e⟩⟩,trivial⟩,⟨⟨rfl,rfl,rfl⟩,rfl,rfl,rfl,trivial⟩⟩;rw [D3 hx,hI];simp_all [a1L];done)
   |(refine c9 ?_;rw [F8 hx];simp_all [a1L];done)
 ·refine c9 ?_
  rw [← hI,lbn (by omega)]
theorem a8c {e:Ev} {i:Int} (h:idx i e.places.length=true):0<=i∧∃x,e.places[i.toNat]? =some x∧F4 e i=x.kind:=by
 have h':=b00.1 h
 have hlt:i.toNat<e.places.length:=by omega
 refine ⟨h'.1,_,lbf hlt,?_⟩
 unfold F4
 rw [lbf hlt];rfl
theorem b80 (e:Ev) (m:j5) (hs:e.Sized):a8 Tryz.prog 119 [evS e,aO0 m] [] (d9 (X7 e m)) []:=by
 have l1:=hs.s1
 have l2:(e.places.map C2.row).length=e.places.length:=by simp
 by_cases h1:idx m.src e.places.length=true
 ·obtain ⟨hs0,x,hx,kx⟩:=a8c h1
  by_cases h2:idx m.dst e.places.length=true
  ·obtain ⟨hd0,y,hy,ky⟩:=a8c h2
   (refine ac Tryz.func119 ?_;(conv=>whnf);repeat (refine zy ?_;conv=>whnf))
   rw [← l2] at h1 h2
   repeat' (first|refine zx ?_|refine qp (a0Z _ _) ?_|refine qp (a4G _ _ _) ?_|refine F6 hs0 hx ?_|refine F6 hd0 hy ?_|refine zd ?_ ?_<;>intro h<;>try omega|fail)<;>conv=>whnf
   all_goals (refine c9 ?_;simp_all [X7];done)
  ·(refine ac Tryz.func119 ?_;(conv=>whnf);repeat (refine zy ?_;conv=>whnf))
   rw [← l2] at h1 h2
   repeat' (first|refine zx ?_|refine qp (a0Z _ _) ?_|refine zd ?_ ?_<;>intro h<;>try omega|fail)<;>conv=>whnf
   all_goals first|(exfalso;simp_all;done)|(refine c9 ?_;simp_all [X7];done)
 ·(refine ac Tryz.func119 ?_;(conv=>whnf);repeat (refine zy ?_;conv=>whnf))
  rw [← l2] at h1
  repeat' (first|refine zx ?_|refine qp (a0Z _ _) ?_|refine zd ?_ ?_<;>intro h<;>try omega|fail)<;>conv=>whnf
  all_goals first|(exfalso;simp_all;done)|(refine c9 ?_;simp_all [X7];done)
theorem b99 (e:Ev) (hs:e.Sized):a8 Tryz.prog 120 [evS e] [] (d9 (a1o e)) []:=by
 have l1:=hs.s3
 have l2:(e.certs.map D7.row).length=e.certs.length:=by simp
 have l3:=hs.s4
 have l4:(e.recalls.map s8.row).length=e.recalls.length:=by simp
 have l5:=hs.s5
 have l6:(e.purities.map w9.row).length=e.purities.length:=by simp
 have l7:=hs.s2
 have l8:(e.moves.map j5.row).length=e.moves.length:=by simp
 (refine ac Tryz.func120 ?_;(conv=>whnf);repeat (refine zy ?_;conv=>whnf))
 refine g8 b9 (fun k=>([J,S.c (C.ptr 0 0 0),J,J,J,J,J,J,J,J,J,S.c (C.t (a0G e.certs)),a7 .i64 e.certs.length,a7 .i64 k]++Jn 107,[evB e])) e.certs.length (fun k=>(e.certs.take k).all (a9R e)=true) [some 0] rfl
  ⟨rfl,rfl,⟨⟨rfl,rfl,rfl,.inl ⟨rfl,L5 e⟩⟩,trivial⟩,⟨⟨rfl,rfl,rfl⟩,g9 rfl,c7 (by simp),c7 rfl,trivial⟩⟩ ?_
 intro k hk hI
 conv=>whnf
 repeat' (first|refine zx ?_|refine zd ?_ ?_<;>intro h<;>try omega|fail)<;>conv=>whnf
 ·have hlt:k<e.certs.length:=by omega
  obtain ⟨x,hx⟩:∃x,e.certs[k]? =some x:=⟨_,lbf hlt⟩
  refine f9 hx ?_
  conv=>whnf
  repeat' (first|refine zx ?_|refine qp (a0Z _ _) ?_|refine qp (a4G _ _ _) ?_|refine zd ?_ ?_<;>intro h<;>try omega|fail)<;>conv=>whnf
  all_goals first
   |(refine ⟨hlt,?_,[some 0],rfl,rfl,⟨⟨rfl,rfl,rfl,.inl ⟨rfl,L5 e⟩⟩,trivial⟩,⟨⟨rfl,rfl,rfl⟩,rfl,rfl,rfl,trivial⟩⟩;rw [D3 hx,hI];simp_all [a9R];done)
   |(refine c9 ?_;rw [a1o,F8 hx];rfl;simp_all [a9R];(try omega);done)
 ·have hc:e.certs.all (a9R e)=true:=by rw [← hI,lbn (by omega)]
  clear hI h hk
  refine g8 b9 (fun k=>([J,S.c (C.ptr 0 0 0)]++Jn 60++[S.c (C.t (M5 e.recalls)),a7 .i64 e.recalls.length,a7 .i64 k]++Jn 56,[evB e])) e.recalls.length (fun k=>(e.recalls.take k).all (a3S e)=true) [some 0] rfl
   ⟨rfl,rfl,⟨⟨rfl,rfl,rfl,.inl ⟨rfl,L5 e⟩⟩,trivial⟩,⟨⟨rfl,rfl,rfl⟩,g9 rfl,c7 (by simp),c7 rfl,trivial⟩⟩ ?_
  intro k hk hI
  conv=>whnf
  repeat' (first|refine zx ?_|refine zd ?_ ?_<;>intro h<;>try omega|fail)<;>conv=>whnf
  ·have hlt:k<e.recalls.length:=by omega
   obtain ⟨x,hx⟩:∃x,e.recalls[k]? =some x:=⟨_,lbf hlt⟩
   refine f9 hx ?_
   conv=>whnf
   repeat' (first|refine zx ?_|refine qp (a0Z _ _) ?_|refine qp (a4G _ _ _) ?_|refine zd ?_ ?_<;>intro h<;>try omega|fail)<;>conv=>whnf
   all_goals first
    |(refine ⟨hlt,?_,[some 0],rfl,rfl,⟨⟨rfl,rfl,rfl,.inl ⟨rfl,L5 e⟩⟩,trivial⟩,⟨⟨rfl,rfl,rfl⟩,rfl,rfl,rfl,trivial⟩⟩;rw [D3 hx,hI];simp_all [a3S];done)
    |(refine c9 ?_;rw [a1o,hc,F8 hx];rfl;simp_all [a3S];done)
  ·have hr:e.recalls.all (a3S e)=true:=by rw [← hI,lbn (by omega)]
   clear hI h hk
   refine g8 b9 (fun k=>([J,S.c (C.ptr 0 0 0)]++Jn 80++[S.c (C.t (R0 e.purities)),a7 .i64 e.purities.length,a7 .i64 k]++Jn 36,[evB e])) e.purities.length (fun k=>(e.purities.take k).all (a1d e)=true) [some 0] rfl
    ⟨rfl,rfl,⟨⟨rfl,rfl,rfl,.inl ⟨rfl,L5 e⟩⟩,trivial⟩,⟨⟨rfl,rfl,rfl⟩,g9 rfl,c7 (by simp),c7 rfl,trivial⟩⟩ ?_
   intro k hk hI
   conv=>whnf
   repeat' (first|refine zx ?_|refine zd ?_ ?_<;>intro h<;>try omega|fail)<;>conv=>whnf
   ·have hlt:k<e.purities.length:=by omega
    obtain ⟨x,hx⟩:∃x,e.purities[k]? =some x:=⟨_,lbf hlt⟩
    refine f9 hx ?_
    conv=>whnf
    repeat' (first|refine zx ?_|refine qp (a0Z _ _) ?_|refine qp (a4G _ _ _) ?_|refine zd ?_ ?_<;>intro h<;>try omega|fail)<;>conv=>whnf
    all_goals first
     |(refine ⟨hlt,?_,[some 0],rfl,rfl,⟨⟨rfl,rfl,rfl,.inl ⟨rfl,L5 e⟩⟩,trivial⟩,⟨⟨rfl,rfl,rfl⟩,rfl,rfl,rfl,trivial⟩⟩;rw [D3 hx,hI];simp_all [a1d];done)
     |(refine c9 ?_;rw [a1o,hc,hr,F8 hx];rfl;simp_all [a1d];(try omega);done)
   ·have hp:e.purities.all (a1d e)=true:=by rw [← hI,lbn (by omega)]
    refine c9 ?_
    rw [a1o,hc,hr,hp];rfl
def b01 (e:Ev):Nat->Int
 |0=>0
 |k+1=>((e.moves[k]?).map (·.day)).getD 0
theorem a9t {e:Ev} {k:Nat} {m:j5} (h:e.moves[k]? =some m):b01 e (k+1)=m.day:=by simp [b01,h]
theorem aD6 {α:Type} {l:List α} {k:Nat} {x:α} (h:l[k]? =some x):l.drop k=x::l.drop (k+1):=by
 obtain ⟨h1,h2⟩:=lbe.1 h
 rw [a52 h1,h2]
theorem a0o (e:Ev) (hs:e.Sized):a8 Tryz.prog 49 [evS e] [] (a7 .i64 (p7 e)) []:=by
 have l7:=hs.s2
 have l8:(e.moves.map j5.row).length=e.moves.length:=by simp
 (refine ac Tryz.func49 ?_;(conv=>whnf);repeat (refine zy ?_;conv=>whnf))
 repeat' (first|refine zx ?_|refine qp (b8M _ hs) ?_|refine qp (b2O _ hs) ?_|refine zd ?_ ?_<;>intro h<;>try omega|fail)<;>conv=>whnf
 case refine_2.refine_2.refine_2.refine_2.refine_1 hf h1 h2 h3=>
  have h4:=h
  clear h
  have hpre:¬(e.mats<1∨e.hhs<0∨e.scs<0∨e.places.all (a1L e)=false):=by
   rintro (h|h|h|h)
   ·omega
   ·omega
   ·omega
   ·rw [h4] at h;cases h
  have hck:p7 e=if I0 e 0 e.moves≠0 then I0 e 0 e.moves else if a1o e then 0 else 1:=by
   unfold p7;rw [if_neg (by simp [hf]),if_neg hpre]
  refine g8 b9 (fun k=>([J,S.c (C.ptr 0 0 0),J,a7 .i64 (b01 e k)]++Jn 25++[S.c (C.t (P8 e.moves)),a7 .i64 e.moves.length,a7 .i64 k]++Jn 22,[evB e])) e.moves.length (fun k=>I0 e 0 e.moves=I0 e (b01 e k) (e.moves.drop k)) [some 0] rfl
   ⟨rfl,rfl,⟨⟨rfl,rfl,rfl,.inl ⟨rfl,L5 e⟩⟩,trivial⟩,⟨⟨rfl,rfl,rfl⟩,c7 rfl,g9 rfl,c7 (by simp),c7 rfl,trivial⟩⟩ ?_
  intro k hk hI
  conv=>whnf
  repeat' (first|refine zx ?_|refine zd ?_ ?_<;>intro h<;>try omega|fail)<;>conv=>whnf
  ·have hlt:k<e.moves.length:=by omega
   obtain ⟨x,hx⟩:∃x,e.moves[k]? =some x:=⟨_,lbf hlt⟩
   rw [aD6 hx,I0] at hI
   refine f9 hx ?_
   conv=>whnf
   repeat' (first|refine zx ?_|refine qp (b80 _ x hs) ?_|refine zd ?_ ?_<;>intro h<;>try omega|fail)<;>conv=>whnf
   all_goals first
    |(refine ⟨hlt,?_,[some 0],rfl,rfl,⟨⟨rfl,rfl,rfl,.inl ⟨rfl,L5 e⟩⟩,trivial⟩,⟨⟨rfl,rfl,rfl⟩,?_,rfl,rfl,rfl,trivial⟩⟩
      ·rw [a9t hx,hI,if_neg (by omega),if_pos (by assumption)]
      ·rw [a9t hx];exact rfl)
    |(have e1:I0 e 0 e.moves=17:=by rw [hI,if_pos (by omega)]
      refine A6 ?_;rw [hck,e1];rfl)
    |(have e1:I0 e 0 e.moves=1:=by rw [hI,if_neg (by omega),if_neg (by simp_all)]
      refine A6 ?_;rw [hck,e1];rfl)
  ·rw [List.drop_eq_nil_of_le (by omega),I0] at hI
   repeat' (first|refine zx ?_|refine qp (b99 _ hs) ?_|refine zd ?_ ?_<;>intro h<;>try omega|fail)<;>conv=>whnf
   all_goals (refine A6 ?_;rw [hck,hI];simp_all)
 all_goals (refine A6 ?_;unfold p7;simp_all;try omega)
abbrev bgC (b:Bg):List C:=[.t (ti b.sg),.t (M4 b.dl)]
abbrev bgS (b:Bg):S:=.agg (bgC b)
abbrev bgB (b:Bg):Blk:={ mode:=.live,elem:=33,size:=2,rows:=[bgC b],box:=true }
theorem a43 (b:Bg):C9 [bgC b]:=by
 intro r hr c hc
 simp at hr
 subst hr
 simp [bgC] at hc
 rcases hc with rfl|rfl<;>rfl
theorem x9 {l:List Int} {i:Nat} (h:i<l.length):l[i]? =some (dat l i):=by
 unfold dat;rw [lbl,lbf h];rfl
theorem a9q {l:List Int} (h:0<l.length):l[((l.length:Int) - 1).toNat]? =some (dat l (l.length - 1)):=by
 rw [show ((l.length:Int) - 1).toNat=l.length - 1 by omega];exact x9 (by omega)
theorem a2p {l:List Int} {n:Nat} (h:0<n) (hn:n<=l.length):l[((n:Int) - 1).toNat]? =some (dat l (n - 1)):=by
 rw [show ((n:Int) - 1).toNat=n - 1 by omega];exact x9 (by omega)
theorem a2H (b:Bg) (hl:b.dl.length<=1000000):a8 Tryz.prog 131 [bgS b] [] (d9 (O4 b)) []:=by
 have l2:(b.dl.map d7).length=b.dl.length:=by simp
 (refine ac Tryz.func131 ?_;(conv=>whnf);repeat (refine zy ?_;conv=>whnf))
 repeat' (first|refine zx ?_|refine zd ?_ ?_<;>intro h<;>try omega|fail)<;>conv=>whnf
 refine g8 b9 (fun k=>([J,S.c (C.ptr 0 0 0),J,a7 .i64 b.dl.length,J,J,J,J,J,J,e8 b.dl,a7 .i64 b.dl.length,a7 .i64 k]++Jn 32,[bgB b])) b.dl.length (fun k=>(b.dl.take k).all inD=true) [some 0] rfl
  ⟨rfl,rfl,⟨⟨rfl,rfl,rfl,.inl ⟨rfl,a43 b⟩⟩,trivial⟩,⟨⟨rfl,rfl,rfl⟩,c7 (by simp),g9 rfl,c7 (by simp),c7 rfl,trivial⟩⟩ ?_
 intro k hk hI
 conv=>whnf
 repeat' (first|refine zx ?_|refine f9 (x9 (by omega)) ?_|refine F6 (by omega) (a9q (by omega)) ?_|refine zd ?_ ?_<;>intro h<;>try omega|fail)<;>conv=>whnf
 all_goals first
  |(have hlt:k<b.dl.length:=by omega
    refine ⟨hlt,?_,[some 0],rfl,rfl,⟨⟨rfl,rfl,rfl,.inl ⟨rfl,a43 b⟩⟩,trivial⟩,⟨⟨rfl,rfl,rfl⟩,rfl,rfl,rfl,rfl,trivial⟩⟩;rw [D3 (x9 hlt),hI];simp [inD];omega)
  |(have hlt:k<b.dl.length:=by omega
    refine c9 ?_;unfold O4;rw [F8 (x9 hlt) (by simp [inD];omega)];rfl)
  |(have ha:b.dl.all inD=true:=by rw [← hI,lbn (by omega)]
    refine c9 ?_;unfold O4;rw [ha];simp_all;done)
theorem a33 (l:List Int) (hl:l.length<=1000000):a8 Tryz.prog 208 [e8 l] [] (e8 (N3 l)) []:=by
 have l2:(l.map d7).length=l.length:=by simp
 (refine ac Tryz.func208 ?_;(conv=>whnf);repeat (refine zy ?_;conv=>whnf))
 repeat' (first|refine zx ?_|refine zd ?_ ?_<;>intro h<;>try omega|fail)<;>conv=>whnf
 refine s7 b9 (σ:=Nat) (fun n=>([e8 l,J,J,a7 .i64 n]++Jn 17,[])) (fun n=>n<=l.length∧∀j x,n<=j->l[j]? =some x->x=0) (fun n=>n) l.length []
  ⟨lbQ _,fun j x hj hx=>by rw [lbd hj] at hx;cases hx⟩ ⟨rfl,rfl,trivial,⟨g9 rfl,c7 (by simp),trivial⟩⟩ ?_
 rintro n ⟨hn,hz⟩
 have hn:n<=l.length:=hn
 conv=>whnf
 repeat' (first|refine zx ?_|refine F6 (by omega) (a2p (by omega) hn) ?_|refine T2 (by omega) (by omega) (by omega) ?_|refine zd ?_ ?_<;>intro h<;>try omega|fail)<;>conv=>whnf
 ·have h0:dat l (n - 1)=0:=by assumption
  have h1:0<n:=by omega
  refine ⟨[],n - 1,⟨rfl,rfl,trivial,⟨rfl,c7 (by omega),trivial⟩⟩,⟨by omega,fun j x hj hxj=>?_⟩,by show n - 1<n;omega⟩
  by_cases hj2:j=n - 1
  ·subst hj2;rw [x9 (by omega)] at hxj;injection hxj with hx;rw [← hx];exact h0
  ·exact hz j x (by omega) hxj
 all_goals
  have e:l.take n=N3 l:=a5C hz (fun x h0 hx=>by
   first
    |omega
    |(rw [x9 (by omega)] at hx;injection hx with hx;rw [← hx];assumption)) hn
  refine b8k ?_ rfl
  rw [← e]
  simp [a7O]
theorem b6Z (l:List Int) (hl:l.length<=1000000):a8 Tryz.prog 208 [a3x 0 l] [k9 l] (.c (.own 0 0 (N3 l).length true)) [k9 l]:=by
 (refine ac Tryz.func208 ?_;(conv=>whnf);repeat (refine zy ?_;conv=>whnf))
 repeat' (first|refine zx ?_|refine zd ?_ ?_<;>intro h<;>try omega|fail)<;>conv=>whnf
 refine s7 b9 (σ:=Nat) (fun n=>([a3x 0 l,J,J,a7 .i64 n]++Jn 17,[k9 l])) (fun n=>n<=l.length∧∀j x,n<=j->l[j]? =some x->x=0) (fun n=>n) l.length [some 0]
  ⟨lbQ _,fun j x hj hx=>by rw [lbd hj] at hx;cases hx⟩ ⟨rfl,rfl,⟨b7 rfl rfl rfl rfl rfl,trivial⟩,⟨o9 rfl rfl,c7 rfl,trivial⟩⟩ ?_
 rintro n ⟨hn,hz⟩
 have hn:n<=l.length:=hn
 have hg:0<n->l[0+((n:Int) - 1).toNat]? =some (dat l (n - 1)):=fun h=>by rw [D8];exact a2p h hn
 conv=>whnf
 repeat' (first|refine zx ?_|refine o7 (hg (by omega)) ?_|refine T2 (by omega) (by omega) (by omega) ?_|refine zd ?_ ?_<;>intro h<;>try omega|fail)<;>conv=>whnf
 ·have h0:dat l (n - 1)=0:=by assumption
  have h1:0<n:=by omega
  refine ⟨[some 0],n - 1,⟨rfl,rfl,⟨b7 rfl rfl rfl rfl rfl,trivial⟩,⟨o9 rfl rfl,c7 (by omega),trivial⟩⟩,⟨by omega,fun j x hj hxj=>?_⟩,by show n - 1<n;omega⟩
  by_cases hj2:j=n - 1
  ·subst hj2;rw [x9 (by omega)] at hxj;injection hxj with hx;rw [← hx];exact h0
  ·exact hz j x (by omega) hxj
 all_goals
  have e:l.take n=N3 l:=a5C hz (fun x h0 hx=>by
   first
    |omega
    |(rw [x9 (by omega)] at hx;injection hx with hx;rw [← hx];assumption)) hn
  have e2:(N3 l).length=n:=by rw [← e];simp;omega
  exact ⟨⟨[some 0],rfl,rfl,⟨b7 rfl rfl rfl rfl rfl,trivial⟩,⟨rfl,rfl,by rw [e2];omega,fun h=>h⟩⟩⟩
theorem aw7 {n:Nat} {K:Prop} (h:0<n) (k:K):0<n∧K:=⟨h,k⟩
theorem a4w (l:List Int) (hl:l.length<=1000000):a8 Tryz.prog 164 [e8 l] [] (e8 l) []:=by
 have l2:(l.map d7).length=l.length:=by simp
 cases l with
 |nil=>
  refine as1 0 rfl ?_ ?_
  ·(refine ac Tryz.func164 ?_;(conv=>whnf);repeat (refine zy ?_;conv=>whnf))
   repeat' (first|refine zx ?_|refine zd ?_ ?_<;>intro h<;>try omega|fail)<;>conv=>whnf
   exact j2 (show aj7 [] _ _ _ from rfl)
  ·(refine ac Tryz.func164 ?_;(conv=>whnf);repeat (refine zy ?_;conv=>whnf))
   repeat' (first|refine zx ?_|refine qp toC ?_|refine aw7 (by simp) ?_|refine sl3_ok (by omega) (by omega) rfl (by omega) ?_|refine E8 rfl (by simp [toC]) ?_|refine zd ?_ ?_<;>intro h<;>try omega|fail)<;>conv=>whnf
   exact K6 rfl (by intro h;cases h) rfl rfl (by simp [toC])
 |cons a r=>
  (refine ac Tryz.func164 ?_;(conv=>whnf);repeat (refine zy ?_;conv=>whnf))
  repeat' (first|refine zx ?_|refine qp toC ?_|refine aw7 (by simp) ?_|refine sl3_ok (by omega) (by omega) rfl (by omega) ?_|refine E8 rfl (by simp [toC] at *;omega) ?_|refine zd ?_ ?_<;>intro h<;>try omega|fail)<;>conv=>whnf
  exact K6 rfl (by intro h;cases h) rfl rfl (by simp [toC])
theorem b2L (l:List Int) (hl:l.length<=1000000):a8 Tryz.prog 164 [e8 l] [] (a3x 0 l) [k9 l]:=by
 have l2:(l.map d7).length=l.length:=by simp
 cases l with
 |nil=>
  refine as1 0 rfl ?_ ?_
  ·(refine ac Tryz.func164 ?_;(conv=>whnf);repeat (refine zy ?_;conv=>whnf))
   repeat' (first|refine zx ?_|refine zd ?_ ?_<;>intro h<;>try omega|fail)<;>conv=>whnf
   exact ⟨⟨[none],rfl,rfl,⟨⟨rfl,rfl⟩,trivial⟩,⟨rfl,rfl,rfl⟩⟩⟩
  ·(refine ac Tryz.func164 ?_;(conv=>whnf);repeat (refine zy ?_;conv=>whnf))
   repeat' (first|refine zx ?_|refine qp toC ?_|refine aw7 (by simp) ?_|refine sl3_ok (by omega) (by omega) rfl (by omega) ?_|refine E8 rfl (by simp [toC]) ?_|refine zd ?_ ?_<;>intro h<;>try omega|fail)<;>conv=>whnf
   exact ⟨⟨[some 0],rfl,rfl,⟨b7 rfl rfl rfl rfl rfl,trivial⟩,⟨rfl,rfl,by simp [toC],fun h=>h⟩⟩⟩
 |cons a r=>
  (refine ac Tryz.func164 ?_;(conv=>whnf);repeat (refine zy ?_;conv=>whnf))
  repeat' (first|refine zx ?_|refine qp toC ?_|refine aw7 (by simp) ?_|refine sl3_ok (by omega) (by omega) rfl (by omega) ?_|refine E8 rfl (by simp [toC] at *;omega) ?_|refine zd ?_ ?_<;>intro h<;>try omega|fail)<;>conv=>whnf
  exact ⟨⟨[some 0],rfl,rfl,⟨b7 rfl rfl rfl rfl rfl,trivial⟩,⟨rfl,rfl,by simp [toC],fun h=>h⟩⟩⟩
theorem b69 (x:Int):a8 Tryz.prog 207 [a7 .i64 x] [] (d9 false) []:=by
 (refine ac Tryz.func207 ?_;(conv=>whnf);repeat (refine zy ?_;conv=>whnf))
 repeat' (first|refine zx ?_|refine zd ?_ ?_<;>intro h<;>try omega|fail)<;>conv=>whnf
 all_goals first
  |omega
  |exact c9 rfl
def S6 (x y:Int):Int:=if x<y then -1 else if x > y then 1 else 0
theorem a3h (x y:Int):a8 Tryz.prog 129 [a7 .i64 x,a7 .i64 y] [] (a7 .i64 (S6 x y)) []:=by
 (refine ac Tryz.func129 ?_;(conv=>whnf);repeat (refine zy ?_;conv=>whnf))
 repeat' (first|refine zx ?_|refine qp (b69 _) ?_|refine zd ?_ ?_<;>intro h<;>try omega|fail)<;>conv=>whnf
 all_goals first
  |(exfalso;simp_all;done)
  |(refine A6 ?_;unfold S6;split<;>first|omega|(split<;>omega))
theorem a2T (x y:Int):a8 Tryz.prog 202 [.c (.t (.sl 1 .full ([x,y].map d7)))] [] (a7 .i64 (if x=0 then y else x)) []:=by
 (refine ac Tryz.func202 ?_;(conv=>whnf);repeat (refine zy ?_;conv=>whnf))
 repeat' (first|refine zx ?_|refine zd ?_ ?_<;>intro h<;>try omega|fail)<;>conv=>whnf
 refine g8 b9 (fun k=>([J,J,J,a7 .i64 0,J,J,S.c (C.t (T.sl 1 .full ([x,y].map d7))),a7 .i64 2,a7 .i64 k]++Jn 9,[])) 2 (fun k=>∀v ∈ [x,y].take k,v=0) [] (by simp)
  ⟨rfl,rfl,trivial,⟨rfl,g9 rfl,c7 rfl,c7 rfl,trivial⟩⟩ ?_
 intro k hk hI
 conv=>whnf
 repeat' (first|refine zx ?_|refine zd ?_ ?_<;>intro h<;>try omega|fail)<;>conv=>whnf
 ·have hlt:k<2:=by omega
  obtain ⟨v,hv⟩:∃v,[x,y][k]? =some v:=⟨_,lbf (by simpa using hlt)⟩
  refine f9 hv ?_
  conv=>whnf
  repeat' (first|refine zx ?_|refine zd ?_ ?_<;>intro h<;>try omega|fail)<;>conv=>whnf
  ·refine A6 ?_
   match k,hlt with
   |0,_=>simp at hv;subst hv;rw [if_neg (by assumption)]
   |1,_=>simp at hv;subst hv;rw [if_pos (hI x (by simp))]
  ·refine ⟨hlt,?_,[],rfl,rfl,trivial,⟨rfl,rfl,rfl,rfl,trivial⟩⟩
   intro u hu
   rw [lbG,hv] at hu
   rcases lbz.1 hu with hu|hu
   ·exact hI u hu
   ·simp at hu;subst hu;omega
 ·have h1:=hI x (by rw [lbn (by simp;omega)];simp)
  have h2:=hI y (by rw [lbn (by simp;omega)];simp)
  refine A6 ?_
  rw [if_pos h1,h2]
def sgn (s:Int) (l:List Int):Bg:=if (N3 l).length=0 then ⟨0,[]⟩ else ⟨s,N3 l⟩
theorem aM6 (s:Int) (l:List Int) (hl:l.length<=1000000):a8 Tryz.prog 130 [a7 .i64 s,e8 l] [] (bgS (sgn s l)) []:=by
 (refine ac Tryz.func130 ?_;(conv=>whnf);repeat (refine zy ?_;conv=>whnf))
 repeat' (first|refine zx ?_|refine qp (a33 l hl) ?_|refine zd ?_ ?_<;>intro h<;>try omega|fail)<;>conv=>whnf
 ·have h0:(N3 l).length=0:=by simp at *;assumption
  unfold sgn
  rw [if_pos h0]
  exact j2 ⟨rfl,rfl,trivial⟩
 ·have h0:¬(N3 l).length=0:=by simp at *;assumption
  unfold sgn
  rw [if_neg h0]
  exact j2 ⟨rfl,rfl,trivial⟩
theorem H8 (r:Bool) (b:Bg):a8 Tryz.prog 201 [d9 r,bgS b] [] (.tup [bgS (if r then b else ⟨0,[]⟩),a7 .i64 (if r then 0 else 1)]) []:=by
 cases r<;>
 ·(refine ac Tryz.func201 ?_;(conv=>whnf);repeat (refine zy ?_;conv=>whnf))
  repeat' (first|refine zx ?_|refine zd ?_ ?_<;>intro h<;>try omega|fail)<;>conv=>whnf
  exact j2 ⟨⟨rfl,rfl,trivial⟩,rfl,trivial⟩
theorem a2Q {x y:Int} (h:x<y):S6 x y=-1:=by unfold S6;rw [if_pos h]
theorem a9b {x y:Int} (h:y<x):S6 x y=1:=by unfold S6;rw [if_neg (by omega),if_pos h]
theorem b6z {x y:Int} (h:x=y):S6 x y=0:=by unfold S6;rw [if_neg (by omega),if_neg (by omega)]
theorem b2X {s:Int} {l:List Int} (h:Okd l) (hs:s=1∨s=-1∨val l=0):sgn s l=bz (s*val l):=by
 have hv:=p8 h
 unfold sgn bz
 rw [T0 h]
 by_cases h0:val l=0
 ·rw [h0,Int.mul_zero];rfl
 ·have h1:(dg (val l).toNat).length≠0:=by rw [Ne,S8,R1];omega
  rw [if_neg h1]
  rcases hs with rfl|rfl|h2
  ·rw [a5i (by omega)]
   congr 2;omega
  ·rw [ac1 (by omega)]
   congr 2;omega
  ·exact absurd h2 h0
theorem a2n (a b:List Int) (ha:Can a) (hb:Can b) (la:a.length<=1000000) (lb:b.length<=1000000):
 a8 Tryz.prog 148 [e8 a,e8 b] [] (a7 .i64 (S6 (val a) (val b))) []:=by
 have l1:(a.map d7).length=a.length:=by simp
 have l2:(b.map d7).length=b.length:=by simp
 have key:∀{x y:List Int},Can x->Can y->x.length<y.length->val x<val y:=fun {x y} hx hy h=>by
  rw [aX1 hx,aX1 hy] at h
  have:=at5 h
  have:=p8 hx.1
  omega
 by_cases hl:a.length=b.length
 ·(refine ac Tryz.func148 ?_;(conv=>whnf);repeat (refine zy ?_;conv=>whnf))
  repeat' (first|refine zx ?_|refine zd ?_ ?_<;>intro h<;>try omega|fail)<;>conv=>whnf
  refine s7 b9 (σ:=Nat) (fun k=>([e8 a,e8 b,J,J,J,a7 .i64 ((k:Int) - 1)]++Jn 35,[])) (fun k=>k<=a.length∧a.drop k=b.drop k) (fun k=>k) a.length []
   ⟨lbQ _,by rw [lbo (lbQ _),lbo (by omega)]⟩ ⟨rfl,rfl,trivial,⟨g9 rfl,g9 rfl,c7 (by simp),trivial⟩⟩ ?_
  rintro k ⟨hk,hd⟩
  have hk:k<=a.length:=hk
  have hd:a.drop k=b.drop k:=hd
  conv=>whnf
  repeat' (first|refine zx ?_|refine qp (a3h _ _) ?_|refine F6 (by omega) (a2p (by omega) hk) ?_|refine F6 (by omega) (a2p (by omega) (hl ▸ hk)) ?_|refine zd ?_ ?_<;>intro h<;>try omega|fail)<;>conv=>whnf
  all_goals first
   |(have hp:0<k:=by omega
     have e:k - 1+1=k:=by omega
     have gx:=x9 (l:=a) (i:=k - 1) (by omega)
     have gy:=x9 (l:=b) (i:=k - 1) (by omega)
     refine A6 ?_
     rcases a9Z (dat a (k - 1)) (dat b (k - 1)) with h|h|h
     ·rw [a2Q h,a2Q (a8j ha.1 hb.1 hl gx gy (by rw [e];exact hd) h)]
     ·exfalso;simp_all;done
     ·rw [a9b h,a9b (a8j hb.1 ha.1 hl.symm gy gx (by rw [e];exact hd.symm) h)])
   |(have hp:0<k:=by omega
     have hq:dat a (k - 1)=dat b (k - 1):=by omega
     refine ⟨[],k - 1,⟨rfl,rfl,trivial,⟨rfl,rfl,c7 (by omega),trivial⟩⟩,⟨by omega,?_⟩,by show k - 1<k;omega⟩
     rw [a52 (by omega:k - 1<a.length),a52 (by omega:k - 1<b.length),show k - 1+1=k by omega,hd]
     congr 1
     have gx:=x9 (l:=a) (i:=k - 1) (by omega)
     have gy:=x9 (l:=b) (i:=k - 1) (by omega)
     rw [lbf (by omega)] at gx gy
     injection gx with gx
     injection gy with gy
     rw [gx,gy,hq])
   |(have:k=0:=by omega
     subst this
     simp only [a6c] at hd
     refine A6 ?_
     rw [hd,b6z rfl])
 ·(refine ac Tryz.func148 ?_;(conv=>whnf);repeat (refine zy ?_;conv=>whnf))
  repeat' (first|refine zx ?_|refine qp (a3h _ _) ?_|refine zd ?_ ?_<;>intro h<;>try omega|fail)<;>conv=>whnf
  all_goals first
   |omega
   |(refine A6 ?_
     rcases aa1 hl with h|h
     ·rw [a2Q (by omega),a2Q (key ha hb h)]
     ·rw [a9b (by omega),a9b (key hb ha h)])
def b1K (a b:Bg):Int:=if O4 a && O4 b then S6 (bv a) (bv b) else 0
theorem aY1 (x:Int):Can (bz x).dl:=a1t _
theorem aA6 (x:Int):val (bz x).dl=x.natAbs:=x3 _
theorem N6 (x:Int):x.sign=0∧x=0∨x.sign=1∧0<x∨x.sign=-1∧x<0:=by
 rcases a9Z x 0 with h|h|h
 ·exact .inr (.inr ⟨ac1 h,h⟩)
 ·subst h;exact .inl ⟨rfl,rfl⟩
 ·exact .inr (.inl ⟨a5i h,h⟩)
theorem b2v {x y:Int} (h:x.sign≠y.sign):S6 x.sign y.sign=S6 x y:=by
 rcases N6 x with ⟨e,h1⟩|⟨e,h1⟩|⟨e,h1⟩<;>rcases N6 y with ⟨f,h2⟩|⟨f,h2⟩|⟨f,h2⟩<;>rw [e,f] at h ⊢<;>unfold S6<;>(repeat' split)<;>omega
theorem b4c {x y:Int} (h:x.sign=y.sign):x.sign*S6 x.natAbs y.natAbs=S6 x y:=by
 rcases N6 x with ⟨e,h1⟩|⟨e,h1⟩|⟨e,h1⟩<;>rcases N6 y with ⟨f,h2⟩|⟨f,h2⟩|⟨f,h2⟩<;>rw [e,f] at h<;>try omega
 all_goals (rw [e];unfold S6;(repeat' split)<;>omega)
theorem b4d (x y:Int):-1<=S6 x y∧S6 x y<=1:=by unfold S6;split<;>(try split)<;>omega
theorem aL0 {b:Bg} (h:O4 b=true):∃z,b=bz z:=⟨_,b9Z h⟩
theorem aX7 (a b:Bg) (la:a.dl.length<=1000000) (lb:b.dl.length<=1000000):
 a8 Tryz.prog 80 [bgS a,bgS b] [] (a7 .i64 (b1K a b)) []:=by
 have r1:=a2H a la
 have r2:=a2H b lb
 cases ha:O4 a with
 |false=>
  rw [ha] at r1
  (refine ac Tryz.func80 ?_;(conv=>whnf);repeat (refine zy ?_;conv=>whnf))
  repeat' (first|refine zx ?_|refine qp r1 ?_|refine qp r2 ?_|refine zd ?_ ?_<;>intro h<;>try omega|fail)<;>conv=>whnf
  all_goals (first|(exfalso;simp_all;done)|(refine A6 ?_;unfold b1K;rw [ha];rfl))
 |true=>
  rw [ha] at r1
  cases hb:O4 b with
  |false=>
   rw [hb] at r2
   (refine ac Tryz.func80 ?_;(conv=>whnf);repeat (refine zy ?_;conv=>whnf))
   repeat' (first|refine zx ?_|refine qp r1 ?_|refine qp r2 ?_|refine zd ?_ ?_<;>intro h<;>try omega|fail)<;>conv=>whnf
   all_goals (first|(exfalso;simp_all;done)|(refine A6 ?_;unfold b1K;rw [ha,hb];rfl))
  |true=>
   rw [hb] at r2
   obtain ⟨x,rfl⟩:=aL0 ha
   obtain ⟨y,rfl⟩:=aL0 hb
   have c:=a2n (bz x).dl (bz y).dl (aY1 x) (aY1 y) la lb
   rw [aA6,aA6] at c
   have e:b1K (bz x) (bz y)=S6 x y:=by unfold b1K;rw [ha,hb,a8p,a8p];rfl
   rw [e]
   have hr:=b4d x y
   by_cases hs:x.sign=y.sign
   ·have hs':(bz x).sg=(bz y).sg:=hs
    have e2:=b4c hs
    (refine ac Tryz.func80 ?_;(conv=>whnf);repeat (refine zy ?_;conv=>whnf))
    repeat' (first|refine zx ?_|refine qp r1 ?_|refine qp r2 ?_|refine qp c ?_|refine ⟨_,J1 e2 (by omega) (by omega),?_⟩|refine zd ?_ ?_<;>intro h<;>try omega|fail)<;>conv=>whnf
    all_goals first
     |omega
     |(exfalso;simp_all;done)
     |exact A6 rfl
   ·have hs':(bz x).sg≠(bz y).sg:=hs
    (refine ac Tryz.func80 ?_;(conv=>whnf);repeat (refine zy ?_;conv=>whnf))
    repeat' (first|refine zx ?_|refine qp r1 ?_|refine qp r2 ?_|refine qp (a3h _ _) ?_|refine zd ?_ ?_<;>intro h<;>try omega|fail)<;>conv=>whnf
    all_goals first
     |omega
     |(exfalso;simp_all;done)
     |exact A6 (b2v hs)
def b1p (a:Bg):Bg:=if O4 a then bz (-bv a) else ⟨0,[]⟩
theorem b8z (a:Bg) (la:a.dl.length<=1000000):a8 Tryz.prog 135 [bgS a] [] (bgS (b1p a)) []:=by
 have r1:=a2H a la
 cases ha:O4 a with
 |false=>
  rw [ha] at r1
  have e:b1p a=⟨0,[]⟩:=by unfold b1p;rw [ha];rfl
  rw [e]
  (refine ac Tryz.func135 ?_;(conv=>whnf);repeat (refine zy ?_;conv=>whnf))
  repeat' (first|refine zx ?_|refine qp r1 ?_|refine zd ?_ ?_<;>intro h<;>try omega|fail)<;>conv=>whnf
  all_goals (first|(exfalso;simp_all;done)|exact j2 ⟨rfl,rfl,trivial⟩)
 |true=>
  rw [ha] at r1
  obtain ⟨x,rfl⟩:=aL0 ha
  have e:b1p (bz x)=sgn (0 - (bz x).sg) (bz x).dl:=by
   rw [aa8]
   unfold b1p
   rw [ha,b2X (aY1 x).1 (by rcases N6 x with ⟨h,h1⟩|⟨h,h1⟩|⟨h,h1⟩<;>rw [b06,h]<;>simp [h1,aA6]),a8p,aA6,b06]
   show bz (-x)=_
   congr 1
   rw [Int.neg_mul,b52]
  rw [e]
  have hs:-1<=(bz x).sg∧(bz x).sg<=1:=by rcases N6 x with ⟨h,h1⟩|⟨h,h1⟩|⟨h,h1⟩<;>rw [b06,h]<;>decide
  (refine ac Tryz.func135 ?_;(conv=>whnf);repeat (refine zy ?_;conv=>whnf))
  repeat' (first|refine zx ?_|refine qp r1 ?_|refine qp (a4w _ la) ?_|refine qp (aM6 _ _ la) ?_|refine zd ?_ ?_<;>intro h<;>try omega|fail)<;>conv=>whnf
  all_goals (first|(exfalso;simp_all;done)|exact j2 ⟨rfl,rfl,trivial⟩)
theorem a5Z {a:Int} (j:Nat) (hj:j<=62):IntKind.wrap .i64 (BitVec.ofInt (IntKind.bits .i64) a &&& BitVec.ofInt (IntKind.bits .i64) ((2 ^ j - 1:Nat):Int)).toNat=a % ((2 ^ j:Nat):Int):=by
 rw [aH5 rfl a j hj]
 have hp:(2:Nat) ^ j<=2 ^ 62:=ax2 (by decide) hj
 have h0:0<(2:Nat) ^ j:=Nat.pow_pos (by decide)
 have h1:0<=a % ((2 ^ j:Nat):Int):=aK0 _ (by omega)
 have h2:a % ((2 ^ j:Nat):Int)<((2 ^ j:Nat):Int):=b18 _ (by omega)
 rw [lbY h1]
 exact (show G0 .i64 _ _ from a3e (by omega) (by omega)).symm
structure au4 (m n:Int):Prop where
 ok:∀a:Int,a4n .and .i64 a m (a % n)
theorem a5K:au4 1048575 1048576:=⟨fun a=>(a5Z (a:=a) 20 (by decide)).symm⟩
theorem a9W:au4 1 2:=⟨fun a=>(a5Z (a:=a) 1 (by decide)).symm⟩
theorem ac0 (a:Int):b02 .i64 a 20 (a / 1048576):=by
 show a / 1048576=a.fdiv 1048576
 exact (Int.fdiv_eq_ediv_of_nonneg _ (by decide)).symm
theorem P2 {l:List Int} {i:Nat} {n:Int} {v:Int} (h:0+n.toNat=i):(toC (l.map d7)).set (0+n.toNat) [C.t (ti v)]=toC ((l.set i v).map d7):=by
 rw [h];simp [toC,d7,a2Z]
theorem Q2 {l:List Int} {n:Int} {i:Nat} (h:n.toNat=i) (hi:i<l.length):l[0+n.toNat]? =some (dat l i):=by rw [D8,h];exact x9 hi
theorem b8q (a b:List Int) (ha:Okd a) (hb:Okd b) (la:a.length<=400000) (lb:b.length<=400000) (hab:b.length<=a.length):
 a8 Tryz.prog 203 [e8 a,e8 b] [] (e8 (dg (val a+val b).toNat)) []:=by
 have l1:(a.map d7).length=a.length:=by simp
 have l2:(b.map d7).length=b.length:=by simp
 (refine ac Tryz.func203 ?_;(conv=>whnf);repeat (refine zy ?_;conv=>whnf))
 repeat' (first|refine zx ?_|refine a8F (by omega) (by omega) (by omega) (by decide) ?_|refine zd ?_ ?_<;>intro h<;>try omega|fail)<;>conv=>whnf
 refine s7 b9 (σ:=Nat × List Int × Int) (fun|(k,out,c)=>([e8 a,e8 b,J,J,J,a3x 0 out,a7 .i64 c]++Jn 13++[e8 a,a7 .i64 a.length,a7 .i64 k]++Jn 32,[k9 out])) (fun x=>a7F a b x.1 x.2.1 x.2.2) (fun x=>a.length - x.1) (0,List.replicate (a.length+1) 0,0) [some 0]
  (a7F.init _ _) ⟨rfl,rfl,⟨b7 rfl rfl rfl ?_ rfl,trivial⟩,⟨g9 rfl,g9 rfl,o9 rfl (by simp),rfl,g9 rfl,c7 (by simp),rfl,trivial⟩⟩ ?_
 ·show List.replicate _ _=_
  simp [toC,d7,C8]
 rintro ⟨k,out,c⟩ hI
 have hI:a7F a b k out c:=hI
 have hlen:=hI.len
 have hle:=hI.le
 have hc0:=hI.c0
 have hc1:=hI.c1
 conv=>whnf
 have hda:=ha.dat k
 have hdb:=hb.dat k
 repeat' (first|refine zx ?_|refine f9 (x9 (by omega)) ?_|refine a1R (by omega) (by show _<((out.length:Nat):Int);omega) ?_|refine o7 (Q2 rfl (by omega)) ?_|refine ⟨_,au4.ok (by first|exact a5K|exact a9W) _,?_⟩|refine ⟨by decide,_,ac0 _,?_⟩|refine zd ?_ ?_<;>intro h<;>try omega|fail)<;>conv=>whnf
 ·refine ⟨[some 0],(k+1,out.set k ((c+dat a k+dat b k) % 1048576),(c+dat a k+dat b k) / 1048576),⟨rfl,rfl,⟨b7 rfl rfl rfl (P2 (by omega)) rfl,trivial⟩,⟨rfl,rfl,o9 rfl (by simp),rfl,rfl,rfl,c7 (by omega),trivial⟩⟩,hI.step ha hb (by omega),?_⟩
  show a.length - (k+1)<a.length - k
  omega
 ·have e:dat b k=0:=a1C (by omega)
  have hst:=hI.step ha hb (by omega)
  rw [e,Int.add_zero] at hst
  refine ⟨[some 0],(k+1,out.set k ((c+dat a k) % 1048576),(c+dat a k) / 1048576),⟨rfl,rfl,⟨b7 rfl rfl rfl (P2 (by omega)) rfl,trivial⟩,⟨rfl,rfl,o9 rfl (by simp),rfl,rfl,rfl,c7 (by omega),trivial⟩⟩,hst,?_⟩
  show a.length - (k+1)<a.length - k
  omega
 ·have hk:k=a.length:=by omega
  subst hk
  have hf:=hI.fin (by omega)
  have t:=a33 (out.set a.length c) (by simp;omega)
  rw [hf] at t
  refine .inr ⟨_,_,x8 [0] t ⟨a2a (p4 (by simp) rfl (by intro h;cases h) rfl (P2 (by omega)) (by simp)),trivial⟩ rfl,?_⟩
  conv=>whnf
  exact b0L (by rw [aC5])
theorem b9a (a b:List Int) (ha:Okd a) (hb:Okd b) (la:a.length<=400000) (lb:b.length<=400000) (hab:a.length<b.length):
 a8 Tryz.prog 203 [e8 a,e8 b] [] (e8 (dg (val a+val b).toNat)) []:=by
 have l1:(a.map d7).length=a.length:=by simp
 have l2:(b.map d7).length=b.length:=by simp
 (refine ac Tryz.func203 ?_;(conv=>whnf);repeat (refine zy ?_;conv=>whnf))
 repeat' (first|refine zx ?_|refine a8F (by omega) (by omega) (by omega) (by decide) ?_|refine zd ?_ ?_<;>intro h<;>try omega|fail)<;>conv=>whnf
 refine s7 b9 (σ:=Nat × List Int × Int) (fun|(k,out,c)=>([e8 b,e8 a,J,J,J,a3x 0 out,a7 .i64 c]++Jn 13++[e8 b,a7 .i64 b.length,a7 .i64 k]++Jn 32,[k9 out])) (fun x=>a7F b a x.1 x.2.1 x.2.2) (fun x=>b.length - x.1) (0,List.replicate (b.length+1) 0,0) [some 0]
  (a7F.init _ _) ⟨rfl,rfl,⟨b7 rfl rfl rfl ?_ rfl,trivial⟩,⟨g9 rfl,g9 rfl,o9 rfl (by simp),rfl,g9 rfl,c7 (by simp),rfl,trivial⟩⟩ ?_
 ·show List.replicate _ _=_
  simp [toC,d7,C8]
 rintro ⟨k,out,c⟩ hI
 have hI:a7F b a k out c:=hI
 have hlen:=hI.len
 have hle:=hI.le
 have hc0:=hI.c0
 have hc1:=hI.c1
 conv=>whnf
 have hda:=hb.dat k
 have hdb:=ha.dat k
 repeat' (first|refine zx ?_|refine f9 (x9 (by omega)) ?_|refine a1R (by omega) (by show _<((out.length:Nat):Int);omega) ?_|refine o7 (Q2 rfl (by omega)) ?_|refine ⟨_,au4.ok (by first|exact a5K|exact a9W) _,?_⟩|refine ⟨by decide,_,ac0 _,?_⟩|refine zd ?_ ?_<;>intro h<;>try omega|fail)<;>conv=>whnf
 ·refine ⟨[some 0],(k+1,out.set k ((c+dat b k+dat a k) % 1048576),(c+dat b k+dat a k) / 1048576),⟨rfl,rfl,⟨b7 rfl rfl rfl (P2 (by omega)) rfl,trivial⟩,⟨rfl,rfl,o9 rfl (by simp),rfl,rfl,rfl,c7 (by omega),trivial⟩⟩,hI.step hb ha (by omega),?_⟩
  show b.length - (k+1)<b.length - k
  omega
 ·have e:dat a k=0:=a1C (by omega)
  have hst:=hI.step hb ha (by omega)
  rw [e,Int.add_zero] at hst
  refine ⟨[some 0],(k+1,out.set k ((c+dat b k) % 1048576),(c+dat b k) / 1048576),⟨rfl,rfl,⟨b7 rfl rfl rfl (P2 (by omega)) rfl,trivial⟩,⟨rfl,rfl,o9 rfl (by simp),rfl,rfl,rfl,c7 (by omega),trivial⟩⟩,hst,?_⟩
  show b.length - (k+1)<b.length - k
  omega
 ·have hk:k=b.length:=by omega
  subst hk
  have hf:=hI.fin (by omega)
  have t:=a33 (out.set b.length c) (by simp;omega)
  rw [hf] at t
  refine .inr ⟨_,_,x8 [0] t ⟨a2a (p4 (by simp) rfl (by intro h;cases h) rfl (P2 (by omega)) (by simp)),trivial⟩ rfl,?_⟩
  conv=>whnf
  exact b0L (by rw [aC5])
theorem b9F (a b:List Int) (ha:Okd a) (hb:Okd b) (la:a.length<=400000) (lb:b.length<=400000):
 a8 Tryz.prog 203 [e8 a,e8 b] [] (e8 (dg (val a+val b).toNat)) []:=by
 rcases K4 a.length b.length with h|h
 ·exact b9a a b ha hb la lb h
 ·exact b8q a b ha hb la lb h
theorem b9p (a b:List Int) (ha:Okd a) (hb:Okd b) (la:a.length<=400000) (lb:b.length<=a.length) (hv:val b<=val a):
 a8 Tryz.prog 204 [e8 a,e8 b] [] (e8 (dg (val a - val b).toNat)) []:=by
 have l1:(a.map d7).length=a.length:=by simp
 have l2:(b.map d7).length=b.length:=by simp
 (refine ac Tryz.func204 ?_;(conv=>whnf);repeat (refine zy ?_;conv=>whnf))
 repeat' (first|refine zx ?_|refine zd ?_ ?_<;>intro h<;>try omega|fail)<;>conv=>whnf
 refine .inr ⟨_,_,an0 (b2L a (by omega)) rfl rfl rfl rfl,?_⟩
 conv=>whnf
 repeat' (first|refine zx ?_|refine zd ?_ ?_<;>intro h<;>try omega|fail)<;>conv=>whnf
 refine s7 b9 (σ:=Nat × List Int × Int) (fun|(k,out,c)=>([J,e8 b,J,J,J,a3x 0 out,a7 .i64 c,J,J,J,J,J,a7 .i64 a.length,a7 .i64 k]++Jn 29,[k9 out])) (fun x=>aj1 a b x.1 x.2.1 x.2.2) (fun x=>a.length - x.1) (0,a,0) [some 0]
  (aj1.init ha) ⟨rfl,rfl,⟨b7 rfl rfl rfl rfl rfl,trivial⟩,⟨g9 rfl,o9 rfl rfl,rfl,c7 (by simp),rfl,trivial⟩⟩ ?_
 rintro ⟨k,out,c⟩ hI
 have hI:aj1 a b k out c:=hI
 have hlen:=hI.len
 have hle:=hI.le
 have hc0:=hI.c0
 have hc1:=hI.c1
 conv=>whnf
 have hda:=hI.ok.dat k
 have hdb:=hb.dat k
 repeat' (first|refine zx ?_|refine f9 (x9 (by omega)) ?_|refine a1R (by omega) (by show _<((out.length:Nat):Int);omega) ?_|refine o7 (Q2 (i:=k) rfl (by omega)) ?_|refine ⟨_,au4.ok (by first|exact a5K|exact a9W) _,?_⟩|refine ⟨by decide,_,ac0 _,?_⟩|refine zd ?_ ?_<;>intro h<;>try omega|fail)<;>conv=>whnf
 ·refine ⟨[some 0],(k+1,out.set k ((dat out k - c - dat b k) % 1048576),(dat out k - c - dat b k) / 1048576 % 2),⟨rfl,rfl,⟨b7 rfl rfl rfl (P2 (by omega)) rfl,trivial⟩,⟨rfl,o9 rfl (by simp),rfl,rfl,c7 (by omega),trivial⟩⟩,hI.step ha hb (by omega),?_⟩
  show a.length - (k+1)<a.length - k
  omega
 ·have e:dat b k=0:=a1C (by omega)
  have hst:=hI.step ha hb (by omega)
  rw [e,Int.sub_zero] at hst
  refine ⟨[some 0],(k+1,out.set k ((dat out k - c) % 1048576),(dat out k - c) / 1048576 % 2),⟨rfl,rfl,⟨b7 rfl rfl rfl (P2 (by omega)) rfl,trivial⟩,⟨rfl,o9 rfl (by simp),rfl,rfl,c7 (by omega),trivial⟩⟩,hst,?_⟩
  show a.length - (k+1)<a.length - k
  omega
 ·have hk:k=a.length:=by omega
  subst hk
  have hf:=hI.fin (by omega) hv
  have t:=a33 out (by omega)
  rw [hf] at t
  refine .inr ⟨_,_,x8 [0] t ⟨a2a (p4 (by simp) rfl (by intro h;cases h) rfl rfl (by simp)),trivial⟩ rfl,?_⟩
  conv=>whnf
  exact b0L rfl
theorem b7F (a b:List Int) (ha:Okd a) (hb:Okd b) (la:a.length<=400000) (lb:b.length<=400000):
 a8 Tryz.prog 219 [e8 a,e8 b] [] (e8 (dg (val a*val b).toNat)) []:=by
 have l1:(a.map d7).length=a.length:=by simp
 have l2:(b.map d7).length=b.length:=by simp
 (refine ac Tryz.func219 ?_;(conv=>whnf);repeat (refine zy ?_;conv=>whnf))
 repeat' (first|refine zx ?_|refine a8F (by omega) (by omega) (by omega) (by decide) ?_|refine zd ?_ ?_<;>intro h<;>try omega|fail)<;>conv=>whnf
 refine s7 b9 (σ:=Nat × List Int) (fun|(i,out)=>([J,e8 b,J,J,J,a3x 0 out]++Jn 12++[e8 a,a7 .i64 a.length,a7 .i64 i]++Jn 46,[k9 out])) (fun x=>a7a a b x.1 x.2) (fun x=>a.length - x.1) (0,List.replicate (a.length+b.length) 0) [some 0]
  (a7a.init a b) ⟨rfl,rfl,⟨b7 rfl rfl rfl ?_ rfl,trivial⟩,⟨g9 rfl,o9 rfl (by simp;omega),g9 rfl,c7 (by simp),rfl,trivial⟩⟩ ?_
 ·show List.replicate _ _=_
  rw [show ((((a.map d7).length:Nat):Int)+((b.map d7).length:Nat)).toNat=a.length+b.length by omega]
  simp [toC,d7,C8]
 rintro ⟨i,out⟩ hI
 have hI:a7a a b i out:=hI
 have hlen:=hI.len
 have hle:=hI.le
 conv=>whnf
 repeat' (first|refine zx ?_|refine f9 (x9 (by omega)) ?_|refine zd ?_ ?_<;>intro h<;>try omega|fail)<;>conv=>whnf
 ·have hi:i<a.length:=by omega
  refine s7 b9 (σ:=Nat × List Int × Int) (fun|(k,out,c)=>([J,e8 b,J,J,J,a3x 0 out,a7 .i64 i,a7 .i64 (dat a i),a7 .i64 c,J,J,J,J,J,J,J,J,J,e8 a,a7 .i64 a.length,a7 .i64 i,J,J,J,J,e8 b,a7 .i64 b.length,a7 .i64 k]++Jn 39,[k9 out])) (fun x=>aj2 a b i x.1 x.2.1 x.2.2) (fun x=>b.length - x.1) (0,out,0) [some 0]
   hI.start ⟨rfl,rfl,⟨b7 rfl rfl rfl rfl rfl,trivial⟩,⟨g9 rfl,o9 rfl rfl,rfl,rfl,rfl,g9 rfl,rfl,rfl,g9 rfl,c7 (by simp),rfl,trivial⟩⟩ ?_
  rintro ⟨k,out,c⟩ hK
  have hK:aj2 a b i k out c:=hK
  have hlen:=hK.len
  have hle:=hK.le
  have hc0:=hK.c0
  have hc1:=hK.c1
  conv=>whnf
  have hdo:=hK.ok.dat (i+k)
  have hm:=a4z (ha.dat i) (hb.dat k)
  have e1:((i:Int)+k).toNat=i+k:=by omega
  have e2:((i:Int)+b.length).toNat=i+b.length:=by omega
  have e3:((i:Int)+((b.map d7).length:Nat)).toNat=i+b.length:=by omega
  have hz:=hK.zero (i+b.length) (lbQ _)
  repeat' (first|refine zx ?_|refine f9 (x9 (by omega)) ?_|refine a1R (by omega) (by show _<((out.length:Nat):Int);omega) ?_|refine o7 (Q2 e1 (by omega)) ?_|refine o7 (Q2 e3 (by omega)) ?_|refine ⟨_,au4.ok (by first|exact a5K|exact a9W) _,?_⟩|refine ⟨by decide,_,ac0 _,?_⟩|refine zd ?_ ?_<;>intro h<;>try omega|fail)<;>conv=>whnf
  ·refine ⟨[some 0],(k+1,out.set (i+k) ((dat out (i+k)+dat a i*dat b k+c) % 1048576),(dat out (i+k)+dat a i*dat b k+c) / 1048576),⟨rfl,rfl,⟨b7 rfl rfl rfl (P2 (by omega)) rfl,trivial⟩,⟨rfl,o9 rfl (by simp),rfl,rfl,rfl,rfl,rfl,rfl,rfl,rfl,c7 (by omega),trivial⟩⟩,hK.step ha hb hi (by omega),?_⟩
   show b.length - (k+1)<b.length - k
   omega
  ·have hk:k=b.length:=by omega
   subst hk
   refine ⟨[some 0],(i+1,out.set (i+b.length) (dat out (i+b.length)+c)),⟨rfl,rfl,⟨b7 rfl rfl rfl (P2 (by omega)) rfl,trivial⟩,⟨rfl,o9 rfl (by simp),rfl,rfl,c7 (by omega),trivial⟩⟩,hK.done ha hb hi,?_⟩
   show a.length - (i+1)<a.length - i
   omega
 ·have hi:i=a.length:=by omega
  subst hi
  have hf:=hI.fin
  have t:=a33 out (by omega)
  rw [hf] at t
  refine .inr ⟨_,_,x8 [0] t ⟨a2a (p4 (by simp) rfl (by intro h;cases h) rfl rfl (by simp)),trivial⟩ rfl,?_⟩
  conv=>whnf
  exact b0L rfl
theorem b98 (a b:List Int) (ha:Okd a) (hb:Okd b) (la:a.length<=400000) (lb:b.length<=400000):
 a8 Tryz.prog 219 [e8 a,e8 b] [] (.c (.own 0 0 (dg (val a*val b).toNat).length true)) [k9 (Z7 (a.length+b.length) (dg (val a*val b).toNat))]:=by
 have l1:(a.map d7).length=a.length:=by simp
 have l2:(b.map d7).length=b.length:=by simp
 (refine ac Tryz.func219 ?_;(conv=>whnf);repeat (refine zy ?_;conv=>whnf))
 repeat' (first|refine zx ?_|refine a8F (by omega) (by omega) (by omega) (by decide) ?_|refine zd ?_ ?_<;>intro h<;>try omega|fail)<;>conv=>whnf
 refine s7 b9 (σ:=Nat × List Int) (fun|(i,out)=>([J,e8 b,J,J,J,a3x 0 out]++Jn 12++[e8 a,a7 .i64 a.length,a7 .i64 i]++Jn 46,[k9 out])) (fun x=>a7a a b x.1 x.2) (fun x=>a.length - x.1) (0,List.replicate (a.length+b.length) 0) [some 0]
  (a7a.init a b) ⟨rfl,rfl,⟨b7 rfl rfl rfl ?_ rfl,trivial⟩,⟨g9 rfl,o9 rfl (by simp;omega),g9 rfl,c7 (by simp),rfl,trivial⟩⟩ ?_
 ·show List.replicate _ _=_
  rw [show ((((a.map d7).length:Nat):Int)+((b.map d7).length:Nat)).toNat=a.length+b.length by omega]
  simp [toC,d7,C8]
 rintro ⟨i,out⟩ hI
 have hI:a7a a b i out:=hI
 have hlen:=hI.len
 have hle:=hI.le
 conv=>whnf
 repeat' (first|refine zx ?_|refine f9 (x9 (by omega)) ?_|refine zd ?_ ?_<;>intro h<;>try omega|fail)<;>conv=>whnf
 ·have hi:i<a.length:=by omega
  refine s7 b9 (σ:=Nat × List Int × Int) (fun|(k,out,c)=>([J,e8 b,J,J,J,a3x 0 out,a7 .i64 i,a7 .i64 (dat a i),a7 .i64 c,J,J,J,J,J,J,J,J,J,e8 a,a7 .i64 a.length,a7 .i64 i,J,J,J,J,e8 b,a7 .i64 b.length,a7 .i64 k]++Jn 39,[k9 out])) (fun x=>aj2 a b i x.1 x.2.1 x.2.2) (fun x=>b.length - x.1) (0,out,0) [some 0]
   hI.start ⟨rfl,rfl,⟨b7 rfl rfl rfl rfl rfl,trivial⟩,⟨g9 rfl,o9 rfl rfl,rfl,rfl,rfl,g9 rfl,rfl,rfl,g9 rfl,c7 (by simp),rfl,trivial⟩⟩ ?_
  rintro ⟨k,out,c⟩ hK
  have hK:aj2 a b i k out c:=hK
  have hlen:=hK.len
  have hle:=hK.le
  have hc0:=hK.c0
  have hc1:=hK.c1
  conv=>whnf
  have hdo:=hK.ok.dat (i+k)
  have hm:=a4z (ha.dat i) (hb.dat k)
  have e1:((i:Int)+k).toNat=i+k:=by omega
  have e2:((i:Int)+b.length).toNat=i+b.length:=by omega
  have e3:((i:Int)+((b.map d7).length:Nat)).toNat=i+b.length:=by omega
  have hz:=hK.zero (i+b.length) (lbQ _)
  repeat' (first|refine zx ?_|refine f9 (x9 (by omega)) ?_|refine a1R (by omega) (by show _<((out.length:Nat):Int);omega) ?_|refine o7 (Q2 e1 (by omega)) ?_|refine o7 (Q2 e3 (by omega)) ?_|refine ⟨_,au4.ok (by first|exact a5K|exact a9W) _,?_⟩|refine ⟨by decide,_,ac0 _,?_⟩|refine zd ?_ ?_<;>intro h<;>try omega|fail)<;>conv=>whnf
  ·refine ⟨[some 0],(k+1,out.set (i+k) ((dat out (i+k)+dat a i*dat b k+c) % 1048576),(dat out (i+k)+dat a i*dat b k+c) / 1048576),⟨rfl,rfl,⟨b7 rfl rfl rfl (P2 (by omega)) rfl,trivial⟩,⟨rfl,o9 rfl (by simp),rfl,rfl,rfl,rfl,rfl,rfl,rfl,rfl,c7 (by omega),trivial⟩⟩,hK.step ha hb hi (by omega),?_⟩
   show b.length - (k+1)<b.length - k
   omega
  ·have hk:k=b.length:=by omega
   subst hk
   refine ⟨[some 0],(i+1,out.set (i+b.length) (dat out (i+b.length)+c)),⟨rfl,rfl,⟨b7 rfl rfl rfl (P2 (by omega)) rfl,trivial⟩,⟨rfl,o9 rfl (by simp),rfl,rfl,c7 (by omega),trivial⟩⟩,hK.done ha hb hi,?_⟩
   show a.length - (i+1)<a.length - i
   omega
 ·have hi:i=a.length:=by omega
  subst hi
  have hf:=hI.fin
  have t:=b6Z out (by omega)
  have hp:=ar0 out
  rw [hf] at t hp
  refine .inr ⟨_,_,t,?_⟩
  conv=>whnf
  have hq:Z7 (a.length+b.length) (dg (val a*val b).toNat)=out:=by unfold Z7;rw [← hlen];exact hp
  rw [hq]
  exact ⟨⟨[some 0],rfl,rfl,⟨b7 rfl rfl rfl rfl rfl,trivial⟩,⟨rfl,rfl,rfl,fun h=>h⟩⟩⟩
theorem b54 {r:Int} (h0:0<=r) (h1:r<4398046511104):G0 .i64 (r*2 ^ min (20:Int).toNat (IntKind.bits .i64)) (r*1048576):=by
 show G0 .i64 (r*1048576) (r*1048576)
 exact a3e (by omega) (by omega)
theorem b8Q {k:IntKind} (hk:k.bits=64) (R X:Nat) (h1:R<4398046511104) (hx:X<1048576):(BitVec.ofInt k.bits ((R:Int)*1048576) ||| BitVec.ofInt k.bits (X:Int)).toNat=R*1048576+X:=by
 rw [hk,BitVec.toNat_or,BitVec.toNat_ofInt,BitVec.toNat_ofInt]
 have e1:(((R:Int)*1048576) % ((2 ^ 64:Nat):Int)).toNat=R <<< 20:=by
  rw [Nat.shiftLeft_eq];omega
 have e2:((X:Int) % ((2 ^ 64:Nat):Int)).toNat=X:=by omega
 rw [e1,e2,←Nat.shiftLeft_add_eq_or_of_lt (by omega),Nat.shiftLeft_eq]
theorem b9f {r x:Int} (h0:0<=r) (h1:r<4398046511104) (hx0:0<=x) (hx1:x<1048576):a4n .or .i64 (r*1048576) x (r*1048576+x):=by
 obtain ⟨R,rfl⟩:=ad1 h0
 obtain ⟨X,rfl⟩:=ad1 hx0
 unfold a4n
 simp only
 rw [b8Q rfl R X (by omega) (by omega)]
 have e:((R*1048576+X:Nat):Int)=(R:Int)*1048576+X:=by simp
 rw [e]
 exact (show G0 .i64 ((R:Int)*1048576+X) _ from a3e (by omega) (by omega))
theorem b7D {a b:Int} (h0:0<=a) (h1:a<=9223372036854775807) (hb:0<b):G0 .i64 (a.tdiv b) (a / b):=by
 rw [Int.tdiv_eq_ediv_of_nonneg h0]
 have h2:0<=a / b:=Int.ediv_nonneg h0 (by omega)
 have h3:a / b<=a:=Int.ediv_le_self _ h0
 exact a3e (by omega) (by omega)
theorem b23 {l:List Int} {n:Nat} (h:0<n) (hn:n<=l.length):l[0+((n:Int) - 1).toNat]? =some (dat l (n - 1)):=by rw [D8];exact a2p h hn
theorem b15 (a:List Int) (d:Int) (ha:Okd a) (la:a.length<=1000000) (hd:0<d) (hd2:d<1048576):
 a8 Tryz.prog 260 [e8 a,a7 .i64 d] [] (.tup [e8 (dg (val a / d).toNat),a7 .i64 (val a % d)]) []:=by
 have l1:(a.map d7).length=a.length:=by simp
 (refine ac Tryz.func260 ?_;(conv=>whnf);repeat (refine zy ?_;conv=>whnf))
 repeat' (first|refine zx ?_|refine a8F (by omega) (by omega) (by omega) (by decide) ?_|refine zd ?_ ?_<;>intro h<;>try omega|fail)<;>conv=>whnf
 refine s7 b9 (σ:=Nat × List Int × Int) (fun|(j,out,r)=>([e8 a,a7 .i64 d,J,J,J,J,a3x 0 out,a7 .i64 r,a7 .i64 ((j:Int) - 1)]++Jn 29,[k9 out])) (fun x=>a2b a d x.1 x.2.1 x.2.2) (fun x=>x.1) (a.length,List.replicate a.length 0,0) [some 0]
  (a2b.init a hd) ⟨rfl,rfl,⟨b7 rfl rfl rfl ?_ rfl,trivial⟩,⟨g9 rfl,rfl,o9 rfl (by simp),rfl,c7 (by simp),trivial⟩⟩ ?_
 ·show List.replicate _ _=_
  simp [toC,d7,C8]
 rintro ⟨j,out,r⟩ hI
 have hI:a2b a d j out r:=hI
 have hlen:=hI.len
 have hle:=hI.le
 have hr0:=hI.r0
 have hr1:=hI.r1
 have hda:=ha.dat (j - 1)
 conv=>whnf
 repeat' (first|refine zx ?_|refine F6 (by omega) (a2p (by omega) hle) ?_|refine a1R (by omega) (by show _<((out.length:Nat):Int);omega) ?_|refine o7 (b23 (by omega) (by omega)) ?_|refine ⟨by decide,_,b54 (by omega) (by omega),?_⟩|refine ⟨_,b9f (by omega) (by omega) (by omega) (by omega),?_⟩|refine ⟨by omega,_,b7D (by omega) (by omega) (by omega),?_⟩|refine b7w (by omega) ?_|refine zd ?_ ?_<;>intro h<;>try omega|fail)<;>conv=>whnf
 ·obtain ⟨j,rfl⟩:∃i,j=i+1:=⟨j - 1,by omega⟩
  simp only [aF8] at *
  have hst:=hI.step ha hd
  rw [← Int.tmod_eq_emod_of_nonneg (by omega)] at hst
  refine ⟨[some 0],(j,out.set j ((r*1048576+dat a j) / d),(r*1048576+dat a j).tmod d),⟨rfl,rfl,⟨b7 rfl rfl rfl (P2 (by omega)) rfl,trivial⟩,⟨rfl,rfl,o9 rfl (by simp),rfl,c7 (by omega),trivial⟩⟩,hst,?_⟩
  show j<j+1
  omega
 ·have hj:j=0:=by omega
  subst hj
  obtain ⟨hf,hr⟩:=hI.fin ha hd
  have t:=a33 out (by omega)
  rw [hf] at t
  refine .inr ⟨_,_,x8 [0] t ⟨a2a (p4 (by simp) rfl (by intro h;cases h) rfl rfl (by simp)),trivial⟩ rfl,?_⟩
  conv=>whnf
  repeat' (first|refine zx ?_|refine zd ?_ ?_<;>intro h<;>try omega|fail)<;>conv=>whnf
  exact j2 ⟨rfl,c7 hr,trivial⟩
theorem b04 {pre out post:List Int} {k:Nat} (h:k<out.length):(pre++out++post)[pre.length+(k:Int).toNat]? =some (dat out k):=by
 rw [lbD,lbc (by omega),show pre.length+(k:Int).toNat - pre.length=k by omega,lbb h]
 exact x9 h
theorem a71 {pre out post:List Int} {k:Nat} {v:Int} (h:k<out.length):(toC ((pre++out++post).map d7)).set (pre.length+(k:Int).toNat) [C.t (ti v)]=toC ((pre++out.set k v++post).map d7):=by
 have e:(pre++out++post).set (pre.length+k) v=pre++out.set k v++post:=by
  rw [lbD,List.set_append_right _ _ (by omega),show pre.length+k - pre.length=k by omega,av6 _ _ h,lbD]
 rw [← e]
 show (toC ((pre++out++post).map d7)).set (pre.length+k) _=_
 simp [toC,d7,a2Z]
def T6 (w v g:Int):Int:=if g*v<=w then g else g - 1
theorem b4j (pre w post v:List Int) (g:Int) (hw:Okd w) (hv:Okd v) (lw:w.length<=1000000) (lv:v.length<=w.length) (hg:0<=g∧g<1048576) (hgv:g*val v<=val w+val v):
 a8 Tryz.prog 261 [.c (.own 0 pre.length w.length false),e8 v,a7 .i64 g] [k9 (pre++w++post)] (a7 .i64 (T6 (val w) (val v) g))
  [k9 (pre++Z7 w.length (dg (val w - T6 (val w) (val v) g*val v).toNat)++post)]:=by
 have l1:(v.map d7).length=v.length:=by simp
 (refine ac Tryz.func261 ?_;(conv=>whnf);repeat (refine zy ?_;conv=>whnf))
 repeat' (first|refine zx ?_|refine zd ?_ ?_<;>intro h<;>try omega|fail)<;>conv=>whnf
 refine s7 b9 (σ:=Nat × List Int × Int) (fun|(k,out,c)=>([S.c (C.own 0 pre.length w.length false),e8 v,a7 .i64 g,J,J,J,J,a7 .i64 c,J,J,J,J,J,a7 .i64 w.length,a7 .i64 k]++Jn 63,[k9 (pre++out++post)])) (fun x=>a8L w v g x.1 x.2.1 x.2.2) (fun x=>w.length - x.1) (0,w,0) [some 0]
  (a8L.init g hw) ⟨rfl,rfl,⟨b7 rfl rfl rfl rfl rfl,trivial⟩,⟨⟨rfl,rfl,rfl,fun h=>h⟩,g9 rfl,rfl,rfl,rfl,rfl,trivial⟩⟩ ?_
 rintro ⟨k,out,c⟩ hI
 have hI:a8L w v g k out c:=hI
 have hlen:=hI.len
 have hle:=hI.le
 have hc0:=hI.c0
 have hc1:=hI.c1
 have hdo:=hI.ok.dat k
 have hm:=a4z hg (hv.dat k)
 conv=>whnf
 repeat' (first|refine zx ?_|refine f9 (x9 (by omega)) ?_|refine o7 (b04 (by omega)) ?_|refine ⟨_,au4.ok (by first|exact a5K|exact a9W) _,?_⟩|refine ⟨by decide,_,ac0 _,?_⟩|refine zd ?_ ?_<;>intro h<;>try omega|fail)<;>conv=>whnf
 ·have hst:=hI.step hv hg (by omega)
  refine ⟨[some 0],(k+1,out.set k ((dat out k - c - g*dat v k) % 1048576),-((dat out k - c - g*dat v k) / 1048576)),⟨rfl,rfl,⟨b7 rfl rfl rfl (a71 (by omega)) rfl,trivial⟩,⟨⟨rfl,rfl,rfl,fun h=>h⟩,rfl,rfl,c7 (aa8 _),rfl,c7 (by omega),trivial⟩⟩,hst,?_⟩
  show w.length - (k+1)<w.length - k
  omega
 ·have hst:=hI.step hv hg (by omega)
  rw [a1C (l:=v) (i:=k) (by omega),Int.mul_zero,Int.sub_zero] at hst
  refine ⟨[some 0],(k+1,out.set k ((dat out k - c) % 1048576),-((dat out k - c) / 1048576)),⟨rfl,rfl,⟨b7 rfl rfl rfl (a71 (by omega)) rfl,trivial⟩,⟨⟨rfl,rfl,rfl,fun h=>h⟩,rfl,rfl,c7 (aa8 _),rfl,c7 (by omega),trivial⟩⟩,hst,?_⟩
  show w.length - (k+1)<w.length - k
  omega
 ·have hk:k=w.length:=by omega
  subst hk
  have hc:c=0:=by assumption
  obtain ⟨h1,h2⟩:=hI.zero lv hw hv hg.1
  have hq:T6 (val w) (val v) g=g:=by unfold T6;rw [if_pos (h1.1 hc)]
  rw [hq,←h2 hc,←b0n hI.ok hlen]
  exact ⟨⟨[some 0],rfl,rfl,⟨b7 rfl rfl rfl rfl rfl,trivial⟩,rfl⟩⟩
 ·have hk:k=w.length:=by omega
  subst hk
  have hc:¬c=0:=by assumption
  obtain ⟨h1,h2⟩:=hI.zero lv hw hv hg.1
  have hlt:¬g*val v<=val w:=fun h=>hc (h1.2 h)
  have hq:T6 (val w) (val v) g=g - 1:=by unfold T6;rw [if_neg hlt]
  have hvl:=a02 hv
  have hpw:=a1T lv
  rw [hq]
  refine s7 b9 (σ:=Nat × List Int × Int) (fun|(k,o,c)=>([S.c (C.own 0 pre.length w.length false),e8 v,a7 .i64 g,J,J,J,J,J,J,J,a7 .i64 c]++Jn 37++[a7 .i64 w.length,a7 .i64 k]++Jn 28,[k9 (pre++o++post)])) (fun x=>a69 out v x.1 x.2.1 x.2.2) (fun x=>w.length - x.1) (0,out,0) [some 0]
   (a69.init hI.ok) ⟨rfl,rfl,⟨b7 rfl rfl rfl rfl rfl,trivial⟩,⟨⟨rfl,rfl,rfl,fun h=>h⟩,g9 rfl,rfl,rfl,rfl,rfl,trivial⟩⟩ ?_
  rintro ⟨k,o,c'⟩ hB
  have hB:a69 out v k o c':=hB
  have hlen2:=hB.len
  have hle2:=hB.le
  have hb0:=hB.c0
  have hb1:=hB.c1
  have hdo:=hB.ok.dat k
  have hdv:=hv.dat k
  conv=>whnf
  repeat' (first|refine zx ?_|refine f9 (x9 (by omega)) ?_|refine o7 (b04 (by omega)) ?_|refine ⟨_,au4.ok (by first|exact a5K|exact a9W) _,?_⟩|refine ⟨by decide,_,ac0 _,?_⟩|refine zd ?_ ?_<;>intro h<;>try omega|fail)<;>conv=>whnf
  ·have hst:=hB.step hv (by omega)
   refine ⟨[some 0],(k+1,o.set k ((c'+dat o k+dat v k) % 1048576),(c'+dat o k+dat v k) / 1048576),⟨rfl,rfl,⟨b7 rfl rfl rfl (a71 (by omega)) rfl,trivial⟩,⟨⟨rfl,rfl,rfl,fun h=>h⟩,rfl,rfl,rfl,rfl,c7 (by omega),trivial⟩⟩,hst,?_⟩
   show w.length - (k+1)<w.length - k
   omega
  ·have hst:=hB.step hv (by omega)
   rw [a1C (l:=v) (i:=k) (by omega),Int.add_zero] at hst
   refine ⟨[some 0],(k+1,o.set k ((c'+dat o k) % 1048576),(c'+dat o k) / 1048576),⟨rfl,rfl,⟨b7 rfl rfl rfl (a71 (by omega)) rfl,trivial⟩,⟨⟨rfl,rfl,rfl,fun h=>h⟩,rfl,rfl,rfl,rfl,c7 (by omega),trivial⟩⟩,hst,?_⟩
   show w.length - (k+1)<w.length - k
   omega
  ·have hk:k=w.length:=by omega
   subst hk
   have e:=hI.back hB lv (by omega) (by omega)
   have e2:val w - (g - 1)*val v=val w - g*val v+val v:=by rw [Int.sub_mul];omega
   rw [e2,←e,←b0n hB.ok (by omega)]
   exact ⟨⟨[some 0],rfl,rfl,⟨b7 rfl rfl rfl rfl rfl,trivial⟩,rfl⟩⟩
abbrev b4z (m n:Nat):S:=.tup [e8 (dg (m / n)),e8 (dg (m % n))]
theorem b7M (m n:Nat) (hn:0<n) (h:m<n) (lm:(dg m).length<=400000) (ln:(dg n).length<=400000):
 a8 Tryz.prog 209 [e8 (dg m),e8 (dg n)] [] (b4z m n) []:=by
 have c:=a2n (dg m) (dg n) (a1t m) (a1t n) (by omega) (by omega)
 rw [x3,x3,a2Q (by omega)] at c
 have e1:m / n=0:=Nat.div_eq_of_lt h
 have e2:m % n=m:=b0v h
 unfold b4z
 rw [e1,e2,a1S]
 (refine ac Tryz.func209 ?_;(conv=>whnf);repeat (refine zy ?_;conv=>whnf))
 repeat' (first|refine zx ?_|refine qp c ?_|refine qp (a4w _ (by omega)) ?_|refine zd ?_ ?_<;>intro h<;>try omega|fail)<;>conv=>whnf
 exact j2 ⟨rfl,rfl,trivial⟩
theorem b85 (m n:Nat) (hn:0<n) (h:n<=m) (hl:(dg n).length=1) (lm:(dg m).length<=400000):
 a8 Tryz.prog 209 [e8 (dg m),e8 (dg n)] [] (b4z m n) []:=by
 have l2:((dg n).map d7).length=(dg n).length:=by simp
 have c:=a2n (dg m) (dg n) (a1t m) (a1t n) (by omega) (by omega)
 rw [x3,x3] at c
 have hc:0<=S6 m n:=by unfold S6;split<;>(try split)<;>omega
 have hn2:=N7 n
 rw [hl] at hn2
 have hn3:(n:Int)<1048576:=by simpa [pw] using hn2
 have hd:dg n=[(n:Int)]:=by
  rw [a5Y hn,show n / 1048576=0 by omega,show n % 1048576=n by omega];rfl
 have sh:=b15 (dg m) n (B5 m) (by omega) (by omega) hn3
 rw [x3] at sh
 have e1:((m:Int) / n).toNat=m / n:=by rw [← Int.natCast_ediv];rfl
 have e2:(m:Int) % n=((m % n:Nat):Int):=by simp
 rw [e1,e2] at sh
 have hr:m % n<n:=a5y _ hn
 have t:=a33 [((m % n:Nat):Int)] (by simp)
 rw [T0 (by intro x hx;simp at hx;omega)] at t
 have e3:(val [((m % n:Nat):Int)]).toNat=m % n:=by simp only [val];omega
 rw [e3] at t
 (refine ac Tryz.func209 ?_;(conv=>whnf);repeat (refine zy ?_;conv=>whnf))
 repeat' (first|refine zx ?_|refine qp c ?_|refine qp sh ?_|refine qp hd ?_|refine F6 (x:=(n:Int)) (by omega) (by rw [hd];rfl) ?_|refine .inl ⟨_,_,a5O t ⟨a2a (aT4 rfl),trivial⟩ rfl,?_⟩|refine zd ?_ ?_<;>intro h<;>try omega|fail)<;>conv=>whnf
 all_goals (first|omega|exact j2 ⟨rfl,rfl,trivial⟩)
theorem b8n {n k:Nat} {top:Int} (hn:0<n) (ht:dat (dg n) ((dg n).length - 1)=top) (hk:k<=19) (h1:top*2 ^ k<1048576) (h2:¬top*2 ^ k<524288):
 (dg (n*2 ^ k)).length=(dg n).length∧524288<=dat (dg (n*2 ^ k)) ((dg n).length - 1):=by
 have hl:(dg n).length≠0:=by rw [Ne,S8,R1];omega
 obtain ⟨l,hl'⟩:∃l,(dg n).length=l+1:=⟨(dg n).length - 1,by omega⟩
 rw [hl',aF8] at ht ⊢
 have e1:=s6 (dg n) l
 rw [lbn (by omega),x3,ht] at e1
 have a1:=p8 ((B5 n).take l)
 have a2:=a02 ((B5 n).take l)
 rw [lbs,a1h (by omega)] at a2
 have t0:=(B5 n).dat l
 rw [ht] at t0
 obtain ⟨T,rfl⟩:=ad1 t0.1
 have hp:(0:Int)<2 ^ k:=Int.pow_pos (by decide)
 have hpp:=Q1 l
 have e2:(2:Int) ^ k*2 ^ (20 - k)=1048576:=by rw [← Int.pow_add,show k+(20 - k)=20 by omega];rfl
 have h3:(T:Int)<2 ^ (20 - k):=by
  refine b4p (a:=(2:Int) ^ k) ?_ (X2 hp)
  rw [e2,ab9];exact h1
 have h4:((T:Int)+1)*2 ^ k<=1048576:=by
  have:=lbV (a:=(T:Int)+1) (b:=2 ^ (20 - k)) (c:=2 ^ k) (by omega) (X2 hp)
  rw [e2,ab9] at this;exact this
 have hV:(((n*2 ^ k:Nat)):Int)=n*2 ^ k:=by simp
 have h5:((n*2 ^ k:Nat):Int)<pw (l+1):=by
  rw [hV,J2]
  have b1:(n:Int)+1<=pw l*(T+1):=by rw [Int.mul_add];omega
  have b2:=lbW (c:=(2:Int) ^ k) b1 (X2 hp)
  have b3:=lbV (c:=pw l) h4 (X2 hpp)
  rw [← Int.mul_assoc] at b3
  rw [a44] at b2
  omega
 have h6:pw l*524288<=((n*2 ^ k:Nat):Int):=by
  rw [hV]
  have b1:pw l*T<=(n:Int):=by omega
  have b2:=lbW (c:=(2:Int) ^ k) b1 (X2 hp)
  have b3:=lbV (a:=524288) (b:=(T:Int)*2 ^ k) (c:=pw l) (by omega) (X2 hpp)
  rw [← Int.mul_assoc] at b3
  omega
 have h7:(dg (n*2 ^ k)).length=l+1:=by
  have c1:=O2 h5
  rcases K4 (dg (n*2 ^ k)).length (l+1) with c2|c2
  ·have c3:=N7 (n*2 ^ k)
   have c4:=a1T (show (dg (n*2 ^ k)).length<=l by omega)
   omega
  ·omega
 refine ⟨h7,?_⟩
 have f1:=s6 (dg (n*2 ^ k)) l
 rw [lbn (by omega),x3] at f1
 have f2:=a02 ((B5 (n*2 ^ k)).take l)
 rw [lbs,a1h (by omega)] at f2
 rcases a9P (dat (dg (n*2 ^ k)) l) 524288 with c|c
 ·exfalso
  have:=lbV (a:=dat (dg (n*2 ^ k)) l+1) (b:=524288) (c:=pw l) (by omega) (X2 hpp)
  rw [Int.mul_add] at this
  omega
 ·exact c
theorem b4x {a a' b b':Nat} {x y:S} (h1:a=a') (h2:b=b'):[S.c (.own 0 a b false),x,y]=[S.c (.own 0 a' b' false),x,y]:=by rw [h1,h2]
theorem aO8 {V W v1 top g r:Int} (hG:V8 V W v1 top g r) (hV:0<V) (hW:0<=W) (h1:g<1048576) (h2:g*V<=W+V):
 0<=T6 W V g∧T6 W V g<1048576∧0<=W - T6 W V g*V∧W - T6 W V g*V<V:=by
 have h3:=hG.hi
 have h4:=hG.g0
 rw [a44,al2] at h3
 unfold T6
 by_cases hc:g*V<=W
 ·rw [if_pos hc];omega
 ·rw [if_neg hc,Int.sub_mul,al2]
  have:g≠0:=by rintro rfl;simp at hc;omega
  omega
theorem b81 (m n:Nat) (hn:0<n) (hmn:n<=m) (hl:2<=(dg n).length) (lm:(dg m).length<=300000) (ln:(dg n).length<=300000):
 a8 Tryz.prog 209 [e8 (dg m),e8 (dg n)] [] (b4z m n) []:=by
 have l1:((dg m).map d7).length=(dg m).length:=by simp
 have l2:((dg n).map d7).length=(dg n).length:=by simp
 have c:=a2n (dg m) (dg n) (a1t m) (a1t n) (by omega) (by omega)
 rw [x3,x3] at c
 have hc:0<=S6 m n:=by unfold S6;split<;>(try split)<;>omega
 have ht0:=(B5 n).dat ((dg n).length - 1)
 have ht1:dat (dg n) ((dg n).length - 1)≠0:=(a1t n).2 _ (x9 (by omega))
 generalize htop:dat (dg n) ((dg n).length - 1)=top at ht0 ht1
 (refine ac Tryz.func209 ?_;(conv=>whnf);repeat (refine zy ?_;conv=>whnf))
 repeat' (first|refine zx ?_|refine qp c ?_|refine zd ?_ ?_<;>intro h<;>try omega|fail)<;>conv=>whnf
 refine s7 b9 (σ:=Nat) (fun k=>([e8 (dg m),e8 (dg n),J,J,J,J,J,J,a7 .i64 (2 ^ k)]++Jn 161,[])) (fun k=>k<=19∧top*2 ^ k<1048576) (fun k=>20 - k) 0 []
  ⟨by omega,by omega⟩ ⟨rfl,rfl,trivial,⟨g9 rfl,g9 rfl,rfl,trivial⟩⟩ ?_
 rintro k ⟨hk1,hk2⟩
 have hk1:k<=19:=hk1
 have hk2:top*2 ^ k<1048576:=hk2
 have hp0:(0:Int)<2 ^ k:=Int.pow_pos (by decide)
 have hpt:0<top*2 ^ k:=Int.mul_pos (by omega) hp0
 have hpk:(2:Int) ^ k<=524288:=by
  have:=ax2 (n:=2) (by decide) hk1
  have e:((2 ^ k:Nat):Int)=2 ^ k:=by simp
  omega
 have hgl:(dg n)[(((((dg n).map d7).length:Nat):Int) - 1).toNat]? =some top:=by rw [l2,←htop];exact a9q (by omega)
 conv=>whnf
 repeat' (first|refine zx ?_|refine F6 (by omega) hgl ?_|refine zd ?_ ?_<;>intro h<;>try omega|fail)<;>conv=>whnf
 ·have hlt:top*2 ^ k<524288:=by omega
  refine ⟨[],k+1,⟨rfl,rfl,trivial,⟨rfl,rfl,c7 (Int.pow_succ _ _).symm,trivial⟩⟩,⟨?_,?_⟩,?_⟩
  ·rcases K4 k 19 with h1|h1
   ·exact h1
   ·have:k=19:=by omega
    subst this
    omega
  ·rw [Int.pow_succ,←Int.mul_assoc];omega
  ·show 20 - (k+1)<20 - k
   omega
 ·have hsh:Okd [(2:Int) ^ k]:=by intro x hx;simp at hx;omega
  have mu:=b98 (dg m) [2 ^ k] (B5 m) hsh (by omega) (by simp)
  have mv:=b7F (dg n) [2 ^ k] (B5 n) hsh (by omega) (by simp)
  have ev:val [(2:Int) ^ k]=2 ^ k:=by simp [val]
  rw [ev,x3] at mu mv
  generalize hU:((m:Int)*2 ^ k).toNat=U at mu
  generalize hV:((n:Int)*2 ^ k).toNat=V at mv
  refine .inr ⟨_,_,an0 (aX8 mu ⟨ah8,a2a (aT4 rfl),trivial⟩) rfl rfl rfl rfl,?_⟩
  conv=>whnf
  have hVe:V=n*2 ^ k:=by
   have e:((n:Int)*2 ^ k)=((n*2 ^ k:Nat):Int):=by simp
   rw [← hV,e];exact lbX _
  have hUe:U=m*2 ^ k:=by
   have e:((m:Int)*2 ^ k)=((m*2 ^ k:Nat):Int):=by simp
   rw [← hU,e];exact lbX _
  obtain ⟨lV,hvt⟩:=b8n hn htop hk1 hk2 h
  rw [← hVe] at lV hvt
  have hp1:0<2 ^ k:=Nat.pow_pos (by decide)
  have lU3:(dg m).length<=(dg U).length:=x6 (by rw [hUe];exact a8a m hp1)
  have lU2:(dg U).length<=(dg m).length+1:=O2 (by
   have h1:=N7 m
   rw [J2,hUe]
   have h2:=lbV (a:=2 ^ k) (b:=1048576) (c:=(m:Int)+1) (by omega) (by omega)
   have h3:(((m*2 ^ k:Nat)):Int)=m*2 ^ k:=by simp
   rw [a44] at h2
   omega)
  have lU1:(Z7 ((dg m).length+[(2:Int) ^ k].length) (dg U)).length<=300001:=by rw [ar6 (by simpa using lU2)];simp;omega
  have l3:((dg V).map d7).length=(dg V).length:=by simp
  have lmn:(dg n).length<=(dg m).length:=x6 hmn
  have l4:(toC [[T.atm (Value.int .i64 0)]]).length=1:=rfl
  repeat' (first|refine zx ?_|refine qp (toC,Z7) ?_|refine qp toC ?_|refine o6 (by simp [toC,Z7]) (by simp [toC];omega) ?_|refine .inl ⟨_,_,a5O mv ⟨ah8,a2a (aT4 rfl),trivial⟩ rfl,?_⟩|refine a8F (by omega) (by omega) (by omega) (by decide) ?_|refine zd ?_ ?_<;>intro h<;>try omega|fail)<;>conv=>whnf
  have hV0:0<V:=by rw [hVe];exact Nat.mul_pos hn hp1
  refine s7 b9 (σ:=Nat × List Int × List Int) (fun|(j,u,q)=>(Jn 8++[a7 .i64 (2 ^ k),a3x 0 u,e8 (dg V),a7 .i64 (dg V).length,a3x 1 q,a7 .i64 ((j:Int) - 1)]++Jn 156,[k9 u,k9 q])) (fun x=>a8S U V ((dg U).length+1) (dg V).length x.1 x.2.1 x.2.2) (fun x=>x.1)
   ((dg U).length+1 - (dg V).length,dg U++[0],List.replicate ((dg U).length+1 - (dg V).length) 0) [some 1,some 2]
   (a8S.init hV0 (by omega)) ⟨rfl,rfl,⟨b7 rfl rfl rfl ?_ rfl,b7 rfl rfl rfl ?_ rfl,trivial⟩,⟨rfl,o9 rfl ?_,g9 rfl,c7 (by omega),o9 rfl ?_,c7 ?_,trivial⟩⟩ ?_
  ·simp [toC,N4,Z7,lbC,List.take_append,d7]
  ·show List.replicate _ _=_
   simp [toC,d7,C8]
  ·simp [toC]
  ·simp [toC]
  ·simp [toC]
  rintro ⟨j,u,q⟩ hD
  have hD:a8S U V ((dg U).length+1) (dg V).length j u q:=hD
  have hlu:=hD.lu
  have hlq:=hD.lq
  have hle:=hD.le
  have hdt:0<j->dat u (j - 1+(dg V).length)=dat u (j - 1+(dg V).length):=fun _=>rfl
  have gu0:0<j->u[0+(((j:Int) - 1)+(dg V).length).toNat]? =some (dat u (j - 1+(dg V).length)):=fun h=>Q2 (by omega) (by omega)
  have gu1:0<j->u[0+(((j:Int) - 1)+(dg V).length - 1).toNat]? =some (dat u (j - 1+(dg V).length - 1)):=fun h=>Q2 (by omega) (by omega)
  have d0:=hD.oku.dat (j - 1+(dg V).length)
  have d1:=hD.oku.dat (j - 1+(dg V).length - 1)
  have dv:=(B5 V).dat ((dg V).length - 1)
  have hvt2:524288<=dat (dg V) ((dg V).length - 1):=by rw [lV];exact hvt
  conv=>whnf
  repeat' (first|refine zx ?_|refine a1R (by omega) (by show _<((u.length:Nat):Int);omega) ?_|refine o7 (gu0 (by omega)) ?_|refine o7 (gu1 (by omega)) ?_|refine ⟨by decide,_,b54 (by omega) (by omega),?_⟩|refine ⟨_,b9f (by omega) (by omega) (by omega) (by omega),?_⟩|refine F6 (by omega) (a9q (by omega)) ?_|refine ⟨by omega,_,b7D (by omega) (by omega) (by omega),?_⟩|refine b7w (by omega) ?_|refine zd ?_ ?_<;>intro h<;>try omega|fail)<;>conv=>whnf
  ·have hj:0<j:=by omega
   obtain ⟨i,rfl⟩:∃i,j=i+1:=⟨j - 1,by omega⟩
   simp only [aF8] at *
   obtain ⟨L,hL⟩:∃L,(dg V).length=L+2:=⟨(dg V).length - 2,by omega⟩
   obtain ⟨w3,w2,w0,wv,wz,wlt⟩:=hD.window rfl
   generalize hw:(u.drop i).take ((dg V).length+1)=w at w3 w2 wv wlt
   have hwo:Okd w:=by rw [← hw];exact (hD.oku.drop i).take _
   have dw:∀t,t<=(dg V).length->dat w t=dat u (i+t):=fun t ht=>by
    rw [← hw];unfold dat
    rw [lbl,lbi,if_pos (by omega),lbj,←lbl]
   have win:=Win.of (B5 V) hwo hL (by omega) (by rw [hL] at hvt2;exact hvt2) (by rw [x3];exact wlt)
   rw [dw (L+2) (by omega),dw (L+1) (by omega),dw L (by omega),x3] at win
   have eL1:(dg V).length - 1=L+1:=by omega
   have eu0:i+(L+2)=i+(dg V).length:=by omega
   have eu1:i+(L+1)=i+(dg V).length - 1:=by omega
   rw [eu0,eu1] at win
   generalize ht:dat u (i+(dg V).length)*1048576+dat u (i+(dg V).length - 1)=top2 at win
   have win':=win
   have ht0:=win.t0
   refine s7 b9 (σ:=Int × Int) (fun|(g,r)=>(Jn 8++[a7 .i64 (2 ^ k),a3x 0 u,e8 (dg V),a7 .i64 (dg V).length,a3x 1 q,a7 .i64 i,J,a7 .i64 g,a7 .i64 r]++Jn 153,[k9 u,k9 q])) (fun x=>V8 V (val w) (dat (dg V) (L+1)) top2 x.1 x.2) (fun x=>x.1.toNat)
    (top2 / dat (dg V) (L+1),top2 % dat (dg V) (L+1)) [some 0,some 1]
    (V8.init win) ⟨rfl,rfl,⟨b7 rfl rfl rfl rfl rfl,b7 rfl rfl rfl rfl rfl,trivial⟩,⟨rfl,o9 rfl rfl,g9 rfl,rfl,o9 rfl rfl,c7 (by omega),c7 ?_,c7 ?_,trivial⟩⟩ ?_
   ·rw [eL1]
   ·rw [eL1,Int.tmod_eq_emod_of_nonneg ht0]
   rintro ⟨g,r⟩ hG
   have hG:V8 V (val w) (dat (dg V) (L+1)) top2 g r:=hG
   have hg0:=hG.g0
   have hgu:=hG.gu
   have hr0:=hG.r0
   have hru:=hG.ru
   have dv2:=(B5 V).dat L
   have dv1:=(B5 V).dat (L+1)
   have du2:=hD.oku.dat (i+L)
   have hgm:0<=g*dat (dg V) L∧g*dat (dg V) L<=2097152*1048576:=⟨lbZ hg0 dv2.1,a0P hgu (by omega) dv2.1 (by omega)⟩
   have gv2:(dg V)[((((dg V).length:Nat):Int) - 2).toNat]? =some (dat (dg V) L):=by rw [show ((((dg V).length:Nat):Int) - 2).toNat=L by omega];exact x9 (by omega)
   have gv1:(dg V)[((((dg V).length:Nat):Int) - 1).toNat]? =some (dat (dg V) (L+1)):=by rw [show ((((dg V).length:Nat):Int) - 1).toNat=L+1 by omega];exact x9 (by omega)
   have gu2:u[0+((i:Int)+((dg V).length:Nat) - 2).toNat]? =some (dat u (i+L)):=Q2 (by omega) (by omega)
   conv=>whnf
   repeat' (first|refine zx ?_|refine a1R (by omega) (by show _<((u.length:Nat):Int);omega) ?_|refine F6 (by omega) gv2 ?_|refine F6 (by omega) gv1 ?_|refine o7 gu2 ?_|refine ⟨by decide,_,b54 (by omega) (by omega),?_⟩|refine ⟨_,b9f (by omega) (by omega) (by omega) (by omega),?_⟩|refine T2 (by omega) (by omega) (by show _<=((u.length:Nat):Int);omega) ?_|refine zd ?_ ?_<;>intro h<;>try omega|fail)<;>conv=>whnf
   ·have hgc:1048576<=g:=by omega
    have hst:=V8.step win hG (.inl hgc) (p8 hwo)
    exact ⟨[some 0,some 1],(g - 1,r+dat (dg V) (L+1)),⟨rfl,rfl,⟨b7 rfl rfl rfl rfl rfl,b7 rfl rfl rfl rfl rfl,trivial⟩,⟨rfl,o9 rfl rfl,rfl,rfl,o9 rfl rfl,rfl,rfl,rfl,trivial⟩⟩,hst,by have:=hst.g0;show (g - 1).toNat<g.toNat;omega⟩
   ·have hgc:r<1048576∧r*1048576+dat u (i+L)<g*dat (dg V) L:=by omega
    have hst:=V8.step win hG (.inr hgc) (p8 hwo)
    exact ⟨[some 0,some 1],(g - 1,r+dat (dg V) (L+1)),⟨rfl,rfl,⟨b7 rfl rfl rfl rfl rfl,b7 rfl rfl rfl rfl rfl,trivial⟩,⟨rfl,o9 rfl rfl,rfl,rfl,o9 rfl rfl,rfl,rfl,rfl,trivial⟩⟩,hst,by have:=hst.g0;show (g - 1).toNat<g.toNat;omega⟩
   all_goals
    have hgc:¬(1048576<=g∨(r<1048576∧r*1048576+dat u (i+L)<g*dat (dg V) L)):=by omega
    obtain ⟨hg1,hgV⟩:=V8.fin win hG hgc (by
     have h1:=win.Vl
     have h3:=win.v1l
     have h2:=lbV (a:=1048576) (b:=dat (dg V) (L+1)*1048576+dat (dg V) L) (by omega) (X2 win.P0)
     omega)
    have st:=b4j (u.take i) w (u.drop (i+((dg V).length+1))) (dg V) g hwo (B5 V) (by omega) (by omega) ⟨hg0,hg1⟩ (by rw [x3];exact hgV)
    rw [x3] at st
    obtain ⟨q0,q1,q2,q3⟩:=aO8 hG (by omega) (p8 hwo) hg1 hgV
    have hds:=hD.step rfl hV0 ⟨q0,q1⟩ (by rw [hw];exact q2) (by rw [hw];exact q3)
    rw [hw] at hds
    generalize T6 (val w) V g=Q at st q0 q1 q2 q3 hds
    rw [← w3,w2] at st
    generalize hu':u.take i++Z7 ((dg V).length+1) (dg (val w - Q*V).toNat)++u.drop (i+((dg V).length+1))=u' at st hds
    refine .inr ⟨_,_,N1 (H':=[k9 u',k9 q]) [0] st (b4x (by rw [w0];omega) (by omega)) rfl rfl (by decide) ?_ (by simp) (by simp) rfl rfl rfl ?_ ?_,?_⟩
    ·intro i k hk
     match i,hk with
     |0,hk=>
      injection hk with hk
      subst hk
      exact ⟨rfl,rfl,I5 _,_,rfl,v8 rfl⟩
    ·intro i k hk
     match i,hk with
     |0,hk=>
      injection hk with hk
      subst hk
      exact ⟨_,rfl,v8 rfl⟩
    ·intro j hj hn
     match j,hj with
     |0,_=>simp at hn
     |1,_=>rfl
    conv=>whnf
    have hlu':=hds.lu
    refine zz ?_
    conv=>whnf
    repeat' (first|refine zx ?_|refine o7 (Q2 rfl (by omega)) ?_|refine zd ?_ ?_<;>intro h<;>try omega|fail)<;>conv=>whnf
    exact ⟨[some 0,some 1],(i,u',q.set i Q),⟨rfl,rfl,⟨b7 rfl rfl rfl rfl rfl,b7 rfl rfl rfl (P2 (i:=i) (n:=(i:Int)) (by simp)) rfl,trivial⟩,⟨rfl,o9 rfl (hlu.trans hlu'.symm),rfl,rfl,o9 rfl (by simp),rfl,trivial⟩⟩,hds,by show i<i+1;omega⟩
  ·have hj:j=0:=by omega
   subst hj
   obtain ⟨fq,fu⟩:=hD.fin hV0
   have tu:=a33 u (by omega)
   rw [T0 hD.oku,fu,lbX] at tu
   have tq:=a33 q (by omega)
   rw [T0 hD.okq,fq,lbX] at tq
   have lUV:(dg (U % V)).length<=(dg U).length:=x6 (Nat.mod_le _ _)
   have sh:=b15 (dg (U % V)) (2 ^ k) (B5 _) (by omega) (by omega) (by omega)
   have e1:U % V / 2 ^ k=m % n:=by rw [hUe,hVe,Nat.mul_mod_mul_right,Nat.mul_div_cancel _ hp1]
   have e2:U / V=m / n:=by rw [hUe,hVe,Nat.mul_div_mul_right _ _ hp1]
   have e3:((U % V:Nat):Int) / 2 ^ k=((m % n:Nat):Int):=by rw [← e1];simp
   rw [x3,e3,lbX] at sh
   rw [e2] at tq
   refine .inr ⟨_,_,x8 [0] tu ⟨a2a (p4 (by simp) rfl (by intro h;cases h) rfl rfl (by simp)),trivial⟩ rfl,?_⟩
   conv=>whnf
   repeat' (first|refine zx ?_|refine qp sh ?_|refine zd ?_ ?_<;>intro h<;>try omega|fail)<;>conv=>whnf
   refine .inr ⟨_,_,x8 [1] tq ⟨a2a (p4 (by simp) rfl (by intro h;cases h) rfl rfl (by simp)),trivial⟩ rfl,?_⟩
   conv=>whnf
   exact j2 ⟨rfl,rfl,trivial⟩
theorem b7B (m n:Nat) (hn:0<n) (lm:(dg m).length<=300000) (ln:(dg n).length<=300000):
 a8 Tryz.prog 209 [e8 (dg m),e8 (dg n)] [] (b4z m n) []:=by
 rcases K4 m n with h|h
 ·exact b7M m n hn h (by omega) (by omega)
 ·have h1:(dg n).length≠0:=by rw [Ne,S8,R1];omega
  by_cases hl:(dg n).length=1
  ·exact b85 m n hn h hl (by omega)
  ·exact b81 m n hn h (by omega) lm ln
set_option maxHeartbeats 1000000
theorem b4M (m n:Nat) (lm:(dg m).length<=300000) (ln:(dg n).length<=300000):
 a8 Tryz.prog 203 [e8 (dg m),e8 (dg n)] [] (e8 (dg (m+n))) []:=by
 have h:=b9F (dg m) (dg n) (B5 m) (B5 n) (by omega) (by omega)
 rw [x3,x3,show ((m:Int)+n).toNat=m+n by omega] at h
 exact h
theorem a9B (m n:Nat) (lm:(dg m).length<=300000) (h:n<=m):
 a8 Tryz.prog 204 [e8 (dg m),e8 (dg n)] [] (e8 (dg (m - n))) []:=by
 have h:=b9p (dg m) (dg n) (B5 m) (B5 n) (by omega) (x6 h) (by rw [x3,x3];omega)
 rw [x3,x3,show ((m:Int) - n).toNat=m - n by omega] at h
 exact h
theorem b8o (m n:Nat) (lm:(dg m).length<=300000) (ln:(dg n).length<=300000):
 a8 Tryz.prog 219 [e8 (dg m),e8 (dg n)] [] (e8 (dg (m*n))) []:=by
 have h:=b7F (dg m) (dg n) (B5 m) (B5 n) (by omega) (by omega)
 rw [x3,x3,show ((m:Int)*n).toNat=m*n by rw [← a5E];rfl] at h
 exact h
theorem b8m (m n:Nat) (lm:(dg m).length<=300000) (ln:(dg n).length<=300000):
 a8 Tryz.prog 148 [e8 (dg m),e8 (dg n)] [] (a7 .i64 (S6 m n)) []:=by
 have h:=a2n (dg m) (dg n) (a1t m) (a1t n) (by omega) (by omega)
 rw [x3,x3] at h
 exact h
theorem t8 (s:Int) (k:Nat) (h:s=1∨s=-1∨k=0) (lk:(dg k).length<=700000):
 a8 Tryz.prog 130 [a7 .i64 s,e8 (dg k)] [] (bgS (bz (s*k))) []:=by
 have e:=aM6 s (dg k) (by omega)
 rw [b2X (B5 k) (by rw [x3];omega),x3] at e
 exact e
def Sg (s:Int) (m:Nat):Prop:=(s=0∧m=0)∨(s=1∧0<m)∨(s=-1∧0<m)
theorem aq2 (x:Int):Sg x.sign x.natAbs:=by
 rcases N6 x with ⟨e,h1⟩|⟨e,h1⟩|⟨e,h1⟩
 ·exact .inl ⟨e,by omega⟩
 ·exact .inr (.inl ⟨e,by omega⟩)
 ·exact .inr (.inr ⟨e,by omega⟩)
theorem aG7 {s:Int} {m:Nat} (h:Sg s m):bz (s*m)=⟨s,dg m⟩:=by
 rcases h with ⟨rfl,rfl⟩|⟨rfl,h⟩|⟨rfl,h⟩
 ·rfl
 ·unfold bz;rw [al2,a5i (by omega)];rfl
 ·unfold bz;rw [ac1 (by omega)];congr 2;omega
theorem a1i (s:Int) (m:Nat) (h:Sg s m) (lm:(dg m).length<=300000):a8 Tryz.prog 131 [bgS ⟨s,dg m⟩] [] (d9 true) []:=by
 have:=a2H ⟨s,dg m⟩ (show (dg m).length<=1000000 by omega)
 rw [← aG7 h,a2v,aG7 h] at this
 exact this
theorem aP1 {b b':Bg} {e:Int} {H1:Hp} (h:b=b'):Fin 0 (.tup [bgS b,a7 .i64 e]) H1 (.tup [bgS b',a7 .i64 e]) []:=by
 subst h;exact j2 ⟨⟨rfl,rfl,trivial⟩,rfl,trivial⟩
theorem a0f {a b c d:Nat} (h:a<=max b c+1) (h2:max b c+1<=d):a<=d:=lbR h h2
theorem b87 (s t:Int) (m n:Nat) (hs:Sg s m) (ht:Sg t n) (lm:(dg m).length<=200000) (ln:(dg n).length<=200000):
 a8 Tryz.prog 126 [bgS ⟨s,dg m⟩,bgS ⟨t,dg n⟩] [] (.tup [bgS (bz (s*m+t*n)),a7 .i64 0]) []:=by
 have r1:=a1i s m hs (by omega)
 have r2:=a1i t n ht (by omega)
 have ad:=b4M m n (by omega) (by omega)
 have c:=b8m m n (by omega) (by omega)
 have ls:=a5M m n
 have fin:∀(z:Int) (H1:Hp),z=s*m+t*n->Fin 0 (.tup [bgS (if true then bz z else ⟨0,[]⟩),a7 .i64 0]) H1 (.tup [bgS (bz (s*m+t*n)),a7 .i64 0]) []:=fun z H1 h=>aP1 (by rw [h];rfl)
 rcases hs with ⟨rfl,rfl⟩|⟨rfl,h1⟩|⟨rfl,h1⟩<;>rcases ht with ⟨rfl,rfl⟩|⟨rfl,h2⟩|⟨rfl,h2⟩
 case inl.inl=>
  have sg:=t8 (0) _ (by omega) (a0f ls (by omega))
  have co:=a2T (0) (0)
  (refine ac Tryz.func126 ?_;(conv=>whnf);repeat (refine zy ?_;conv=>whnf))
  repeat' (first|refine zx ?_|refine qp r1 ?_|refine qp r2 ?_|refine qp ad ?_|refine qp sg ?_|refine qp (H8 true _) ?_|refine qp co ?_|refine ⟨_,J1 (y:=0) rfl (by decide) (by decide),?_⟩|refine zd ?_ ?_<;>intro h<;>try omega|fail)<;>conv=>whnf
  all_goals first|omega|exact fin _ _ (by omega)
 case inl.inr.inl=>
  have sg:=t8 (1) _ (by omega) (a0f ls (by omega))
  have co:=a2T (0) (1)
  (refine ac Tryz.func126 ?_;(conv=>whnf);repeat (refine zy ?_;conv=>whnf))
  repeat' (first|refine zx ?_|refine qp r1 ?_|refine qp r2 ?_|refine qp ad ?_|refine qp sg ?_|refine qp (H8 true _) ?_|refine qp co ?_|refine ⟨_,J1 (y:=0) rfl (by decide) (by decide),?_⟩|refine zd ?_ ?_<;>intro h<;>try omega|fail)<;>conv=>whnf
  all_goals first|omega|exact fin _ _ (by omega)
 case inl.inr.inr=>
  have sg:=t8 (-1) _ (by omega) (a0f ls (by omega))
  have co:=a2T (0) (-1)
  (refine ac Tryz.func126 ?_;(conv=>whnf);repeat (refine zy ?_;conv=>whnf))
  repeat' (first|refine zx ?_|refine qp r1 ?_|refine qp r2 ?_|refine qp ad ?_|refine qp sg ?_|refine qp (H8 true _) ?_|refine qp co ?_|refine ⟨_,J1 (y:=0) rfl (by decide) (by decide),?_⟩|refine zd ?_ ?_<;>intro h<;>try omega|fail)<;>conv=>whnf
  all_goals first|omega|exact fin _ _ (by omega)
 case inr.inl.inl=>
  have sg:=t8 (1) _ (by omega) (a0f ls (by omega))
  have co:=a2T (1) (0)
  (refine ac Tryz.func126 ?_;(conv=>whnf);repeat (refine zy ?_;conv=>whnf))
  repeat' (first|refine zx ?_|refine qp r1 ?_|refine qp r2 ?_|refine qp ad ?_|refine qp sg ?_|refine qp (H8 true _) ?_|refine qp co ?_|refine ⟨_,J1 (y:=0) rfl (by decide) (by decide),?_⟩|refine zd ?_ ?_<;>intro h<;>try omega|fail)<;>conv=>whnf
  all_goals first|omega|exact fin _ _ (by omega)
 case inr.inr.inl=>
  have sg:=t8 (-1) _ (by omega) (a0f ls (by omega))
  have co:=a2T (-1) (0)
  (refine ac Tryz.func126 ?_;(conv=>whnf);repeat (refine zy ?_;conv=>whnf))
  repeat' (first|refine zx ?_|refine qp r1 ?_|refine qp r2 ?_|refine qp ad ?_|refine qp sg ?_|refine qp (H8 true _) ?_|refine qp co ?_|refine ⟨_,J1 (y:=0) rfl (by decide) (by decide),?_⟩|refine zd ?_ ?_<;>intro h<;>try omega|fail)<;>conv=>whnf
  all_goals first|omega|exact fin _ _ (by omega)
 case inr.inl.inr.inl=>
  have sg:=t8 (1) _ (by omega) (a0f ls (by omega))
  have co:=a2T (1) (1)
  (refine ac Tryz.func126 ?_;(conv=>whnf);repeat (refine zy ?_;conv=>whnf))
  repeat' (first|refine zx ?_|refine qp r1 ?_|refine qp r2 ?_|refine qp ad ?_|refine qp sg ?_|refine qp (H8 true _) ?_|refine qp co ?_|refine ⟨_,J1 (y:=1) rfl (by decide) (by decide),?_⟩|refine zd ?_ ?_<;>intro h<;>try omega|fail)<;>conv=>whnf
  all_goals first|omega|exact fin _ _ (by omega)
 case inr.inr.inr.inr=>
  have sg:=t8 (-1) _ (by omega) (a0f ls (by omega))
  have co:=a2T (-1) (-1)
  (refine ac Tryz.func126 ?_;(conv=>whnf);repeat (refine zy ?_;conv=>whnf))
  repeat' (first|refine zx ?_|refine qp r1 ?_|refine qp r2 ?_|refine qp ad ?_|refine qp sg ?_|refine qp (H8 true _) ?_|refine qp co ?_|refine ⟨_,J1 (y:=1) rfl (by decide) (by decide),?_⟩|refine zd ?_ ?_<;>intro h<;>try omega|fail)<;>conv=>whnf
  all_goals first|omega|exact fin _ _ (by omega)
 case inr.inl.inr.inr=>
  rcases K4 m n with hmn|hmn
  ·rw [a2Q (by omega)] at c
   have l3:=x6 (Nat.sub_le n m)
   (refine ac Tryz.func126 ?_;(conv=>whnf);repeat (refine zy ?_;conv=>whnf))
   repeat' (first|refine zx ?_|refine qp r1 ?_|refine qp r2 ?_|refine qp c ?_|refine qp (a9B n m (by omega) (by omega)) ?_|refine qp (t8 (-1) (n - m) (by omega) (by omega)) ?_|refine qp (H8 true _) ?_|refine ⟨_,J1 (y:=-1) rfl (by decide) (by decide),?_⟩|refine zd ?_ ?_<;>intro h<;>try omega|fail)<;>conv=>whnf
   all_goals first|omega|exact fin _ _ (by omega)
  ·have hc:0<=S6 m n:=by unfold S6;split<;>(try split)<;>omega
   have l3:=x6 (Nat.sub_le m n)
   (refine ac Tryz.func126 ?_;(conv=>whnf);repeat (refine zy ?_;conv=>whnf))
   repeat' (first|refine zx ?_|refine qp r1 ?_|refine qp r2 ?_|refine qp c ?_|refine qp (a9B m n (by omega) (by omega)) ?_|refine qp (t8 (1) (m - n) (by omega) (by omega)) ?_|refine qp (H8 true _) ?_|refine ⟨_,J1 (y:=-1) rfl (by decide) (by decide),?_⟩|refine zd ?_ ?_<;>intro h<;>try omega|fail)<;>conv=>whnf
   all_goals first|omega|exact fin _ _ (by omega)
 case inr.inr.inr.inl=>
  rcases K4 m n with hmn|hmn
  ·rw [a2Q (by omega)] at c
   have l3:=x6 (Nat.sub_le n m)
   (refine ac Tryz.func126 ?_;(conv=>whnf);repeat (refine zy ?_;conv=>whnf))
   repeat' (first|refine zx ?_|refine qp r1 ?_|refine qp r2 ?_|refine qp c ?_|refine qp (a9B n m (by omega) (by omega)) ?_|refine qp (t8 (1) (n - m) (by omega) (by omega)) ?_|refine qp (H8 true _) ?_|refine ⟨_,J1 (y:=-1) rfl (by decide) (by decide),?_⟩|refine zd ?_ ?_<;>intro h<;>try omega|fail)<;>conv=>whnf
   all_goals first|omega|exact fin _ _ (by omega)
  ·have hc:0<=S6 m n:=by unfold S6;split<;>(try split)<;>omega
   have l3:=x6 (Nat.sub_le m n)
   (refine ac Tryz.func126 ?_;(conv=>whnf);repeat (refine zy ?_;conv=>whnf))
   repeat' (first|refine zx ?_|refine qp r1 ?_|refine qp r2 ?_|refine qp c ?_|refine qp (a9B m n (by omega) (by omega)) ?_|refine qp (t8 (-1) (m - n) (by omega) (by omega)) ?_|refine qp (H8 true _) ?_|refine ⟨_,J1 (y:=-1) rfl (by decide) (by decide),?_⟩|refine zd ?_ ?_<;>intro h<;>try omega|fail)<;>conv=>whnf
   all_goals first|omega|exact fin _ _ (by omega)
theorem sgm (x:Int):x.sign*x.natAbs=x:=b52 x
theorem a4g (x:Int) (lx:bl x<=300000):a8 Tryz.prog 131 [bgS (bz x)] [] (d9 true) []:=a1i _ _ (aq2 x) lx
theorem b8d (x y:Int) (lx:bl x<=200000) (ly:bl y<=200000):a8 Tryz.prog 126 [bgS (bz x),bgS (bz y)] [] (.tup [bgS (bz (x+y)),a7 .i64 0]) []:=by
 have h:=b87 _ _ _ _ (aq2 x) (aq2 y) lx ly
 rw [sgm,sgm] at h
 exact h
theorem a7L (x:Int) (lx:bl x<=300000):a8 Tryz.prog 135 [bgS (bz x)] [] (bgS (bz (-x))) []:=by
 have h:=b8z (bz x) (show bl x<=1000000 by omega)
 unfold b1p at h
 rw [a2v,a8p] at h
 exact h
abbrev bg2 (s:Int) (l:List Int):S:=.agg [.t (ti s),.t (M4 l)]
theorem b8Z (s t:Int) (m n:Nat) (hs:Sg s m) (ht:Sg t n) (lm:(dg m).length<=200000) (ln:(dg n).length<=200000):
 a8 Tryz.prog 149 [bgS ⟨s,dg m⟩,bgS ⟨t,dg n⟩] [] (.tup [bgS (bz ((s*t)*(m*n:Nat))),a7 .i64 0]) []:=by
 have r1:=a1i s m hs (by omega)
 have r2:=a1i t n ht (by omega)
 have mu:=b8o m n (by omega) (by omega)
 have ls:=ae7 m n
 have hst:-1<=s*t∧s*t<=1∧(s*t=1∨s*t=-1∨m*n=0):=by
  rcases hs with ⟨rfl,rfl⟩|⟨rfl,h1⟩|⟨rfl,h1⟩<;>rcases ht with ⟨rfl,rfl⟩|⟨rfl,h2⟩|⟨rfl,h2⟩<;>simp
 obtain ⟨q1,q2,q3⟩:=hst
 have sg:=t8 (s*t) (m*n) q3 (by omega)
 have ck:=H8 true (bz ((s*t)*(m*n:Nat)))
 (refine ac Tryz.func149 ?_;(conv=>whnf);repeat (refine zy ?_;conv=>whnf))
 repeat' (first|refine zx ?_|refine qp r1 ?_|refine qp r2 ?_|refine qp mu ?_|refine qp sg ?_|refine qp ck ?_|refine ⟨_,J1 (y:=s*t) rfl (by omega) (by omega),?_⟩|refine zd ?_ ?_<;>intro h<;>try omega|fail)<;>conv=>whnf
 all_goals first|(exfalso;simp_all;done)|exact aP1 rfl
theorem b8E (x y:Int) (lx:bl x<=200000) (ly:bl y<=200000):a8 Tryz.prog 149 [bgS (bz x),bgS (bz y)] [] (.tup [bgS (bz (x*y)),a7 .i64 0]) []:=by
 have h:=b8Z _ _ _ _ (aq2 x) (aq2 y) lx ly
 have e:(x.sign*y.sign)*((x.natAbs*y.natAbs:Nat):Int)=x*y:=by
  rw [a5E]
  have h1:=sgm x
  have h2:=sgm y
  grind
 rw [e] at h
 exact h
theorem aS0 (x y:Int) (lx:bl x<=300000) (ly:bl y<=300000):a8 Tryz.prog 80 [bgS (bz x),bgS (bz y)] [] (a7 .i64 (S6 x y)) []:=by
 have h:=aX7 (bz x) (bz y) (show bl x<=1000000 by omega) (show bl y<=1000000 by omega)
 unfold b1K at h
 rw [a2v,a2v,a8p,a8p] at h
 exact h
theorem b61 {b b' c c':Bg} {e:Int} {H1:Hp} (h:b=b') (h2:c=c'):Fin 0 (.tup [bgS b,bgS c,a7 .i64 e]) H1 (.tup [bgS b',bgS c',a7 .i64 e]) []:=by
 subst h h2;exact j2 ⟨⟨rfl,rfl,trivial⟩,⟨rfl,rfl,trivial⟩,rfl,trivial⟩
theorem b9h (s:Int) (m n:Nat) (hs:Sg s m) (hn:0<n) (lm:(dg m).length<=200000) (ln:(dg n).length<=200000):
 a8 Tryz.prog 137 [bgS ⟨s,dg m⟩,bgS ⟨1,dg n⟩] [] (.tup [bgS (bz (s*m / n)),bgS (bz (s*m % n)),a7 .i64 0]) []:=by
 show a8 Tryz.prog 137 [bg2 s (dg m),bg2 1 (dg n)] [] _ []
 have r1:=a1i s m hs (by omega)
 have r2:=a1i 1 n (.inr (.inl ⟨rfl,hn⟩)) (by omega)
 have dv:=b7B m n hn (by omega) (by omega)
 have lq:=x6 (Nat.div_le_self m n)
 have hr:=a5y m hn
 have lr:=x6 (Nat.le_of_lt hr)
 have lr2:((dg (m % n)).map d7).length=(dg (m % n)).length:=by simp
 have hz:(dg (m % n)).length=0↔m % n=0:=by rw [S8,R1]
 have hm:=Nat.div_add_mod m n
 have fin:∀(a b:Int) (H1:Hp),a=s*m / n->b=s*m % n->Fin 0 (.tup [bgS (bz a),bgS (bz b),a7 .i64 0]) H1 (.tup [bgS (bz (s*m / n)),bgS (bz (s*m % n)),a7 .i64 0]) []:=fun a b H1 h1 h2=>b61 (by rw [h1]) (by rw [h2])
 rcases hs with ⟨rfl,rfl⟩|⟨rfl,h1⟩|⟨rfl,h1⟩
 ·have s1:=t8 0 (0 / n) (by simp) (by omega)
  have s2:=t8 0 (0 % n) (by simp) (by omega)
  (refine ac Tryz.func137 ?_;(conv=>whnf);repeat (refine zy ?_;conv=>whnf))
  repeat' (first|refine zx ?_|refine qp r1 ?_|refine qp r2 ?_|refine qp dv ?_|refine qp s1 ?_|refine qp s2 ?_|refine ⟨_,J1 (y:=0) rfl (by decide) (by decide),?_⟩|refine zd ?_ ?_<;>intro h<;>try omega|fail)<;>conv=>whnf
  all_goals first|omega|exact fin _ _ _ (by first|rfl|simp) (by first|rfl|simp)
 ·have s1:=t8 1 (m / n) (by simp) (by omega)
  have s2:=t8 1 (m % n) (by simp) (by omega)
  (refine ac Tryz.func137 ?_;(conv=>whnf);repeat (refine zy ?_;conv=>whnf))
  repeat' (first|refine zx ?_|refine qp r1 ?_|refine qp r2 ?_|refine qp dv ?_|refine qp s1 ?_|refine qp s2 ?_|refine ⟨_,J1 (y:=1) rfl (by decide) (by decide),?_⟩|refine zd ?_ ?_<;>intro h<;>try omega|fail)<;>conv=>whnf
  all_goals first|omega|exact fin _ _ _ (by first|rfl|simp) (by first|rfl|simp)
 ·by_cases h0:m % n=0
  ·have hz0:=hz.2 h0
   have s1:=t8 (-1) (m / n) (by simp) (by omega)
   have s2:=t8 (-1) (m % n) (by simp) (by omega)
   have e1:-1*((m / n:Nat):Int)=-1*(m:Int) / n:=by
    have e:(m:Int)=n*(m / n:Nat):=by rw [← a5E];congr 1;omega
    rw [e,show -1*((n:Int)*(m / n:Nat))=n*(-1*(m / n:Nat)) by grind,Int.mul_ediv_cancel_left _ (by omega)]
   have e2:-1*((m % n:Nat):Int)=-1*(m:Int) % n:=by
    have e:(m:Int)=n*(m / n:Nat):=by rw [← a5E];congr 1;omega
    rw [h0,e,show -1*((n:Int)*(m / n:Nat))=n*(-1*(m / n:Nat)) by grind,Int.mul_emod_right]
    simp
   (refine ac Tryz.func137 ?_;(conv=>whnf);repeat (refine zy ?_;conv=>whnf))
   repeat' (first|refine zx ?_|refine qp r1 ?_|refine qp r2 ?_|refine qp dv ?_|refine qp s1 ?_|refine qp s2 ?_|refine ⟨_,J1 (y:=-1) rfl (by decide) (by decide),?_⟩|refine zd ?_ ?_<;>intro h<;>try omega|fail)<;>conv=>whnf
   all_goals first|omega|exact fin _ _ _ e1 e2
  ·have hz0:(dg (m % n)).length≠0:=fun h=>h0 (hz.1 h)
   have one:dg 1=[1]:=rfl
   have ad:=b4M (m / n) 1 (by omega) (by simp [one])
   have sb:=a9B n (m % n) (by omega) (by omega)
   have l1:=a5M (m / n) 1
   have l2:=x6 (Nat.sub_le n (m % n))
   have s1:=t8 (-1) (m / n+1) (by simp) (by rw [one] at l1;simp at l1;omega)
   have s2:=t8 1 (n - m % n) (by simp) (by omega)
   have key:(-1*(m:Int))=(n - m % n:Nat)+n*(-1*((m / n+1:Nat):Int)):=by
    have e:(m:Int)=n*(m / n:Nat)+(m % n:Nat):=by rw [← a5E];omega
    have e2:((n - m % n:Nat):Int)=n - (m % n:Nat):=by omega
    have e3:((m / n+1:Nat):Int)=(m / n:Nat)+1:=by omega
    rw [e2,e3]
    grind
   have e1:-1*((m / n+1:Nat):Int)=-1*(m:Int) / n:=by
    rw [key,Int.add_mul_ediv_left _ _ (by omega),Int.ediv_eq_zero_of_lt (by omega) (by omega)]
    simp
   have e2:1*((n - m % n:Nat):Int)=-1*(m:Int) % n:=by
    rw [key,Int.add_mul_emod_self_left,aD9 (by omega) (by omega)]
    simp
   (refine ac Tryz.func137 ?_;(conv=>whnf);repeat (refine zy ?_;conv=>whnf))
   repeat' (first|refine zx ?_|refine qp r1 ?_|refine qp r2 ?_|refine qp dv ?_|refine qp s1 ?_|refine qp s2 ?_|refine qp sb ?_|refine .inl ⟨_,_,a5O ad ⟨ah8,a2a (aT4 rfl),trivial⟩ rfl,?_⟩|refine ⟨_,J1 (y:=-1) rfl (by decide) (by decide),?_⟩|refine zd ?_ ?_<;>intro h<;>try omega|fail)<;>conv=>whnf
   all_goals first|omega|exact fin _ _ _ e1 e2
theorem at7 (x y:Int) (hy:0<y) (lx:bl x<=200000) (ly:bl y<=200000):a8 Tryz.prog 137 [bgS (bz x),bgS (bz y)] [] (.tup [bgS (bz (x / y)),bgS (bz (x % y)),a7 .i64 0]) []:=by
 have h:=b9h _ _ y.natAbs (aq2 x) (by omega) lx ly
 rw [sgm,show (y.natAbs:Int)=y by omega] at h
 unfold bz at *
 rw [a5i hy]
 exact h
abbrev b88:Blk:={ mode:=.live,elem:=33,size:=2,rows:=[[C8 (.int .i64 0),C8 (.slice none 0 0)]],box:=true }
theorem a4F:C9 [[C8 (.int .i64 0),C8 (.slice none 0 0)]]:=by
 intro r hr c hc
 simp at hr
 subst hr
 simp at hc
 rcases hc with rfl|rfl<;>rfl
structure b9V (x y:Int) (X Y:Nat):Prop where
 g:Nat.gcd X Y=Nat.gcd x.natAbs y.natAbs
 lx:(dg X).length<=200000
 ly:(dg Y).length<=200000
theorem aV1 (x y:Int) (lx:bl x<=200000) (ly:bl y<=200000):a8 Tryz.prog 132 [bgS (bz x),bgS (bz y)] [] (.tup [bgS (bz (Int.gcd x y)),a7 .i64 0]) []:=by
 have r1:=a4g x (by omega)
 have r2:=a4g y (by omega)
 have cl:=a4w (bz x).dl (show bl x<=1000000 by omega)
 (refine ac Tryz.func132 ?_;(conv=>whnf);repeat (refine zy ?_;conv=>whnf))
 repeat' (first|refine zx ?_|refine qp r1 ?_|refine qp r2 ?_|refine qp cl ?_|refine zd ?_ ?_<;>intro h<;>try omega|fail)<;>conv=>whnf
 all_goals first
  |(exfalso;simp_all;done)
  |skip
 refine s7 b9 (σ:=Nat × Nat) (fun|(X,Y)=>([J,J,J,J,S.c (C.ptr 0 0 0),J,e8 (dg X),e8 (dg Y)]++Jn 36,[b88])) (fun s=>b9V x y s.1 s.2) (fun s=>s.2) (x.natAbs,y.natAbs) [some 2]
  ⟨rfl,lx,ly⟩ ⟨rfl,rfl,⟨⟨rfl,rfl,rfl,.inl ⟨rfl,a4F⟩⟩,trivial⟩,⟨⟨rfl,rfl,rfl⟩,rfl,rfl,trivial⟩⟩ ?_
 rintro ⟨X,Y⟩ hI
 have hI:b9V x y X Y:=hI
 obtain ⟨g1,g2,g3⟩:=hI
 have l2:((dg Y).map d7).length=(dg Y).length:=by simp
 conv=>whnf
 by_cases hY:0<Y
 ·have hp:(dg Y).length≠0:=by rw [Ne,S8,R1];omega
  have dv:=b7B X Y hY (by omega) (by omega)
  repeat' (first|refine zx ?_|refine qp dv ?_|refine zd ?_ ?_<;>intro h<;>try omega|fail)<;>conv=>whnf
  all_goals first
   |omega
   |skip
  exact ⟨[some 0],(Y,X % Y),⟨rfl,rfl,⟨⟨rfl,rfl,rfl,.inl ⟨rfl,a4F⟩⟩,trivial⟩,⟨⟨rfl,rfl,rfl⟩,rfl,rfl,trivial⟩⟩,⟨by rw [← g1,Nat.gcd_comm Y,←Nat.gcd_rec,Nat.gcd_comm],g3,lbR (x6 (Nat.le_of_lt (a5y X hY))) g3⟩,a5y X hY⟩
 ·have hY:Y=0:=by omega
  subst hY
  have hp:(dg 0).length=0:=rfl
  have c2:=a4w (dg X) (by omega)
  have s1:=t8 1 X (by simp) (by omega)
  have ck:=H8 true (bz (1*X))
  repeat' (first|refine zx ?_|refine qp c2 ?_|refine qp s1 ?_|refine qp ck ?_|refine zd ?_ ?_<;>intro h<;>try omega|fail)<;>conv=>whnf
  all_goals first
   |omega
   |skip
  refine aP1 ?_
  rw [al2,show X=Int.gcd x y by rw [Int.gcd,←g1,Nat.gcd_zero_right]]
  rfl
theorem a17 {x y:Int} (h:x % 18446744073709551616=y):G0 .u64 x y:=by
 unfold G0
 simp only [IntKind.wrap,IntKind.bits,IntKind.signed]
 simp
 omega
theorem b0m (a:Int):a4n .and .u64 a 1048575 (a % 1048576):=(ay2 (a:=a) 20 (by decide)).symm
theorem b5g (a:Int):b02 .u64 a 20 (a / 1048576):=by
 show a / 1048576=a.fdiv 1048576
 exact (Int.fdiv_eq_ediv_of_nonneg _ (by decide)).symm
structure OfI (n:Int) (acc:List Int) (u:Nat):Prop where
 eq:acc++dg u=dg n.natAbs
theorem OfI.len {n:Int} {acc:List Int} {u:Nat} (h:OfI n acc u) (h0:-9223372036854775808<=n) (h1:n<=9223372036854775807):acc.length<=4:=by
 have h2:(dg n.natAbs).length<=4:=O2 (by simp only [pw];omega)
 have h3:=congrArg List.length h.eq
 simp at h3
 omega
theorem OfI.step {n:Int} {acc:List Int} {u:Nat} (h:OfI n acc u) (hu:0<u):OfI n (acc++[(u:Int) % 1048576]) (u / 1048576):=by
 refine ⟨?_⟩
 rw [← h.eq,a5Y hu]
 simp
theorem OfI.le {n:Int} {acc:List Int} {u:Nat} (h:OfI n acc u):u<=n.natAbs:=by
 have h1:=congrArg val h.eq
 rw [P6,x3,x3] at h1
 have h2:Okd acc:=fun x hx=>B5 n.natAbs x (by rw [← h.eq];simp [hx])
 have h3:=p8 h2
 have h4:=Q1 acc.length
 have h5:=lbW (a:=1) (b:=pw acc.length) (c:=(u:Int)) (by omega) (by omega)
 omega
theorem aI9 {xs:List Int} {x:Int}:(toC (xs.map d7)).take xs.length++toC [[ti x]]=toC ((xs++[x]).map d7):=aw5 (f:=d7)
theorem b0B (n:Int) (h0:-9223372036854775808<=n) (h1:n<=9223372036854775807):a8 Tryz.prog 58 [a7 .i64 n] [] (bgS (bz n)) []:=by
 by_cases hn:n<0
 ·(refine ac Tryz.func58 ?_;(conv=>whnf);repeat (refine zy ?_;conv=>whnf))
  repeat' (first|refine zx ?_|refine ⟨_,a17 (y:=n+18446744073709551616) (by omega),?_⟩|refine ⟨_,a17 (y:=(n.natAbs:Int)) (by omega),?_⟩|refine zd ?_ ?_<;>intro h<;>try omega|fail)<;>conv=>whnf
  refine s7 b9 (σ:=List Int × Nat) (fun|(acc,u)=>([J,J,S.c (C.ptr 0 0 0),a7 .i64 (-1),a7 .u64 u,a3x 1 acc]++Jn 19,[b88,k9 acc])) (fun s=>OfI n s.1 s.2) (fun s=>s.2) ([],n.natAbs) [some 0,none]
   ⟨rfl⟩ ⟨rfl,rfl,⟨⟨rfl,rfl,rfl,.inl ⟨rfl,a4F⟩⟩,⟨rfl,rfl⟩,trivial⟩,⟨⟨rfl,rfl,rfl⟩,rfl,c7 (by omega),⟨rfl,rfl,rfl⟩,trivial⟩⟩ ?_
  rintro ⟨acc,u⟩ hI
  have hI:OfI n acc u:=hI
  have hl:=hI.len h0 h1
  have hu:=hI.le
  conv=>whnf
  repeat' (first|refine zx ?_|refine qp toC ?_|refine qp toC ?_|refine ⟨_,b0m _,?_⟩|refine ⟨by decide,_,b5g _,?_⟩|refine o6 (by simp [toC]) (by simp [toC];omega) ?_|refine ⟨_,a17 (by omega),?_⟩|refine zd ?_ ?_<;>intro h<;>try omega|fail)<;>conv=>whnf
  ·refine ⟨[some 0,some 2],(acc++[(u:Int) % 1048576],u / 1048576),⟨rfl,rfl,⟨⟨rfl,rfl,rfl,.inl ⟨rfl,a4F⟩⟩,b7 rfl rfl rfl aI9 rfl,trivial⟩,⟨⟨rfl,rfl,rfl⟩,rfl,c7 (by simp),o9 rfl (by simp [toC]),trivial⟩⟩,hI.step (by omega),by show u / 1048576<u;omega⟩
  ·have h0u:u=0:=by omega
   subst h0u
   have e:acc=dg n.natAbs:=by have:=hI.eq;rw [a1S,R7] at this;exact this
   have sg:=t8 (-1) n.natAbs (by omega) (by rw [← e];omega)
   rw [← e,show (-1)*(n.natAbs:Int)=n by omega] at sg
   refine .inr ⟨_,_,x8 [1] sg ⟨ah8,a2a (p4 (by simp) rfl (by intro h;cases h) rfl rfl (by simp)),trivial⟩ rfl,?_⟩
   conv=>whnf
   exact j2 ⟨rfl,rfl,trivial⟩
 ·(refine ac Tryz.func58 ?_;(conv=>whnf);repeat (refine zy ?_;conv=>whnf))
  repeat' (first|refine zx ?_|refine ⟨_,a17 (y:=(n.natAbs:Int)) (by omega),?_⟩|refine zd ?_ ?_<;>intro h<;>try omega|fail)<;>conv=>whnf
  refine s7 b9 (σ:=List Int × Nat) (fun|(acc,u)=>([J,J,S.c (C.ptr 0 0 0),a7 .i64 1,a7 .u64 u,a3x 1 acc]++Jn 19,[b88,k9 acc])) (fun s=>OfI n s.1 s.2) (fun s=>s.2) ([],n.natAbs) [some 0,none]
   ⟨rfl⟩ ⟨rfl,rfl,⟨⟨rfl,rfl,rfl,.inl ⟨rfl,a4F⟩⟩,⟨rfl,rfl⟩,trivial⟩,⟨⟨rfl,rfl,rfl⟩,rfl,c7 (by omega),⟨rfl,rfl,rfl⟩,trivial⟩⟩ ?_
  rintro ⟨acc,u⟩ hI
  have hI:OfI n acc u:=hI
  have hl:=hI.len h0 h1
  have hu:=hI.le
  conv=>whnf
  repeat' (first|refine zx ?_|refine qp toC ?_|refine qp toC ?_|refine ⟨_,b0m _,?_⟩|refine ⟨by decide,_,b5g _,?_⟩|refine o6 (by simp [toC]) (by simp [toC];omega) ?_|refine ⟨_,a17 (by omega),?_⟩|refine zd ?_ ?_<;>intro h<;>try omega|fail)<;>conv=>whnf
  ·refine ⟨[some 0,some 2],(acc++[(u:Int) % 1048576],u / 1048576),⟨rfl,rfl,⟨⟨rfl,rfl,rfl,.inl ⟨rfl,a4F⟩⟩,b7 rfl rfl rfl aI9 rfl,trivial⟩,⟨⟨rfl,rfl,rfl⟩,rfl,c7 (by simp),o9 rfl (by simp [toC]),trivial⟩⟩,hI.step (by omega),by show u / 1048576<u;omega⟩
  ·have h0u:u=0:=by omega
   subst h0u
   have e:acc=dg n.natAbs:=by have:=hI.eq;rw [a1S,R7] at this;exact this
   have sg:=t8 (1) n.natAbs (by omega) (by rw [← e];omega)
   rw [← e,show (1)*(n.natAbs:Int)=n by omega] at sg
   refine .inr ⟨_,_,x8 [1] sg ⟨ah8,a2a (p4 (by simp) rfl (by intro h;cases h) rfl rfl (by simp)),trivial⟩ rfl,?_⟩
   conv=>whnf
   exact j2 ⟨rfl,rfl,trivial⟩
end Go.Proofs.YtaejgdbahjjncaaGreat
